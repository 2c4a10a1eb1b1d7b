/- Printed by gen.py: each function of the program as what must be shown of it. -/
import Derived.Test.YtldeegpcldhjaaaGb
namespace Go.Proofs.Ytldeegpcldhjaaa
open Go Gx
set_option maxRecDepth 100000
/-- stanchion/farm.New -/
def W.farm_New  (w : World) (Q : Value → World → Prop) : Prop :=
  ∃ m1 : Option Nat, ∃ w2 : World, Sem.run Try.prog (Instr.makeMap Ty.map_int_P_api_Service none) w = .ok (.map m1) w2 ∧
  ∃ m3 : Option Nat, ∃ w4 : World, Sem.run Try.prog (Instr.makeMap Ty.map_farm_door_int none) w2 = .ok (.map m3) w4 ∧
  Nx (w4.alloc (.cells #[.map m1, .map m3] Ty.farm_Farm)) fun w5 => Q (.pointer (some ⟨w4.heap.size, 0, none⟩)) w5
def A.farm_New : AT := (.seq (.reg []) (.seq (.reg []) .leaf))
theorem W.farm_New_eq  (w : World) (Q : Value → World → Prop) : W.farm_New  w Q = DF Try.prog tk A.farm_New Try.f7 [] w Q := by kernel_rfl
theorem W.farm_New_ok  (w : World) (Q : Value → World → Prop) (h : W.farm_New  w Q) : Calls Try.prog F.farm_New #[] w fun e w1 => ∃ v, e = .returned v ∧ Q v w1 :=
  calls_of_DF hmix Try.func7 (by kernel_rfl) (Eq.mp (W.farm_New_eq  w Q) h)

/-- stanchion/conf.Steps -/
def W.conf_Steps (l : Sl) (w : World) (Q : Value → World → Prop) : Prop :=
  Calls Try.prog F.conf_diff #[.slice none 0 0, .slice l.a l.len l.cap] w fun e2 w1 =>
  ∃ s3 : Sl, ∃ n4 : Int, e2 = .returned (.tuple #[.slice s3.a s3.len s3.cap, .int .i64 n4]) ∧
  Q (.tuple #[.slice s3.a s3.len s3.cap, .int .i64 n4]) w1
def A.conf_Steps : AT := (.seq (.reg []) (.seq (.reg []) .leaf))
theorem W.conf_Steps_eq (l : Sl) (w : World) (Q : Value → World → Prop) : W.conf_Steps l w Q = DF Try.prog tk A.conf_Steps Try.f8 [.slice l.a l.len l.cap] w Q := by kernel_rfl
theorem W.conf_Steps_ok (l : Sl) (w : World) (Q : Value → World → Prop) (h : W.conf_Steps l w Q) : Calls Try.prog F.conf_Steps #[.slice l.a l.len l.cap] w fun e w1 => ∃ v, e = .returned v ∧ Q v w1 :=
  calls_of_DF hmix Try.func8 (by kernel_rfl) (Eq.mp (W.conf_Steps_eq l w Q) h)

/-- stanchion/conf.Diff -/
def W.conf_Diff (a : Sl) (b : Sl) (w : World) (Q : Value → World → Prop) : Prop :=
  Calls Try.prog F.conf_diff #[.slice a.a a.len a.cap, .slice b.a b.len b.cap] w fun e2 w1 =>
  ∃ s3 : Sl, ∃ n4 : Int, e2 = .returned (.tuple #[.slice s3.a s3.len s3.cap, .int .i64 n4]) ∧
  Q (.tuple #[.slice s3.a s3.len s3.cap, .int .i64 n4]) w1
def A.conf_Diff : AT := (.seq (.reg []) (.seq (.reg []) .leaf))
theorem W.conf_Diff_eq (a : Sl) (b : Sl) (w : World) (Q : Value → World → Prop) : W.conf_Diff a b w Q = DF Try.prog tk A.conf_Diff Try.f9 [.slice a.a a.len a.cap, .slice b.a b.len b.cap] w Q := by kernel_rfl
theorem W.conf_Diff_ok (a : Sl) (b : Sl) (w : World) (Q : Value → World → Prop) (h : W.conf_Diff a b w Q) : Calls Try.prog F.conf_Diff #[.slice a.a a.len a.cap, .slice b.a b.len b.cap] w fun e w1 => ∃ v, e = .returned v ∧ Q v w1 :=
  calls_of_DF hmix Try.func9 (by kernel_rfl) (Eq.mp (W.conf_Diff_eq a b w Q) h)

/-- stanchion/conf.Apply -/
def W.conf_Apply (f : Option Addr) (l : Sl) (w : World) (Q : Value → World → Prop) : Prop :=
  ((Option.isNone f) = true → Q (.tuple #[.int .i64 0, .int .i64 1]) w) ∧ (
    (Option.isNone f) = false → ∃ (I1 : Int → World → Prop) (μ2 : Int → World → Nat), I1 0 w ∧
    ∀ (n3 : Int) (w4 : World), I1 n3 w4 → (
      (decide ((n3 : Int) < ((l.len : Nat) : Int))) = true → ∃ a5 : Addr, l.a = some a5 ∧
      ((0 : Int) ≤ n3 ∧ n3 < ((l.len : Nat) : Int)) ∧ ∃ l6 : List Value, rdCells w4 (a5.add (Int.toNat n3 * 51)) 0 51 = some l6 ∧
      Nx (
        w4.alloc (
          .cells #[.int .i64 0, .slice none 0 0, .int .i64 0, .int .i64 0, .int .u64 0, .bool false, .int .i64 0, .bool false, .int .u8 0, .int .u8 0, .int .u8 0, .int .u8 0, .int .u8 0, .int .u8 0, .int .u8 0, .int .u8 0, .int .u8 0, .int .u8 0, .int .u8 0, .int .u8 0, .int .u8 0, .int .u8 0, .int .u8 0, .int .u8 0, .int .u16 0, .int .u8 0, .int .i64 0, .int .u64 0, .slice none 0 0, .int .i64 0, .bool false, .int .u8 0, .int .u8 0, .int .u8 0, .int .u8 0, .int .u8 0, .int .u8 0, .int .u8 0, .int .u8 0, .int .u8 0, .int .u8 0, .int .u8 0, .int .u8 0, .int .u8 0, .int .u8 0, .int .u8 0, .int .u8 0, .int .u16 0, .int .i64 0, .bool false, .slice none 0 0] Ty.api_Op)
        )
      fun w7 => StoreOk w7 ⟨w4.heap.size, 0, none⟩ (Array.toList l6.toArray) ∧
      Array.size l6.toArray = 51 ∧ Nx (setCells w7 ⟨w4.heap.size, 0, none⟩ 0 (Array.toList l6.toArray)) fun w8 =>
      ∃ l9 : List Value, rdCells w8 ⟨w4.heap.size, 0, none⟩ 0 51 = some l9 ∧ Calls Try.prog F.conf_does #[.pointer f, .agg l9.toArray] w8 fun e11 w10 =>
      ∃ n12 : Int, e11 = .returned (.int .i64 n12) ∧ (((n12 : Int) != 0) = true → Q (.tuple #[.int .i64 n3, .int .i64 n12]) w10) ∧
      (
        ((n12 : Int) != 0) = false → I1 (IntKind.wrap .i64 (n3 + 1)) w10 ∧ μ2 (IntKind.wrap .i64 (n3 + 1)) w10 < μ2 n3 w4)
      )
    ∧ (
      (decide ((n3 : Int) < ((l.len : Nat) : Int))) = false → Q (.tuple #[.int .i64 ((l.len : Nat) : Int), .int .i64 0]) w4)
    )
def A.conf_Apply : AT := (.seq (.reg []) (.seq (.seq (.reg []) (.cond (.seq (.reg []) .leaf) .leaf)) (.seq (.seq (.reg []) (.blk (.loop [(13, (.int .i64))] [0, 1, 11, 12] (.seq (.reg []) (.seq (.cond .leaf .leaf) (.seq (.blk (.seq (.reg []) (.seq (.reg []) (.seq (.reg []) (.cond (.seq (.reg []) .leaf) .leaf))))) (.reg []))))))) (.seq (.reg []) .leaf))))
theorem W.conf_Apply_eq (f : Option Addr) (l : Sl) (w : World) (Q : Value → World → Prop) : W.conf_Apply f l w Q = DF Try.prog tk A.conf_Apply Try.f11 [.pointer f, .slice l.a l.len l.cap] w Q := by kernel_rfl
theorem W.conf_Apply_ok (f : Option Addr) (l : Sl) (w : World) (Q : Value → World → Prop) (h : W.conf_Apply f l w Q) : Calls Try.prog F.conf_Apply #[.pointer f, .slice l.a l.len l.cap] w fun e w1 => ∃ v, e = .returned v ∧ Q v w1 :=
  calls_of_DF hmix Try.func11 (by kernel_rfl) (Eq.mp (W.conf_Apply_eq f l w Q) h)

/-- stanchion/conf.Of -/
def W.conf_Of (f : Option Addr) (w : World) (Q : Value → World → Prop) : Prop :=
  Calls Try.prog F.farm_Farm_IDs #[.pointer f] w fun e2 w1 => ∃ s3 : Sl, e2 = .returned (.slice s3.a s3.len s3.cap) ∧
  ∃ (I4 : Sl → Int → World → Prop) (μ5 : Sl → Int → World → Nat), I4 ⟨none, 0, 0⟩ 0 w1 ∧
  ∀ (s6 : Sl) (n7 : Int) (w8 : World), I4 s6 n7 w8 → (
    (decide ((n7 : Int) < ((s3.len : Nat) : Int))) = true → ∃ a9 : Addr, s3.a = some a9 ∧
    ((0 : Int) ≤ n7 ∧ n7 < ((s3.len : Nat) : Int)) ∧ ∃ n10 : Int, w8.cell? (a9.add (Int.toNat n7 * 1)) = some (.int .i64 n10) ∧
    Calls Try.prog F.farm_Farm_Service #[.pointer f, .int .i64 n10] w8 fun e12 w11 =>
    ∃ c13 : Array Value, ∃ b14 : Bool, e12 = .returned (.tuple #[.agg c13, .bool b14]) ∧
    Nx (
      w11.alloc (
        .cells #[.int .i64 0, .bool false, .int .u8 0, .int .u8 0, .int .u8 0, .int .u8 0, .int .u8 0, .int .u8 0, .int .u8 0, .int .u8 0, .int .u8 0, .int .u8 0, .int .u8 0, .int .u8 0, .int .u8 0, .int .u8 0, .int .u8 0, .int .u8 0, .int .u16 0, .int .u8 0, .int .i64 0, .int .u64 0, .slice none 0 0] Ty.api_Service)
      )
    fun w15 => StoreOk w15 ⟨w11.heap.size, 0, none⟩ (Array.toList c13) ∧ Array.size c13 = 23 ∧
    Nx (setCells w15 ⟨w11.heap.size, 0, none⟩ 0 (Array.toList c13)) fun w16 =>
    ∃ l17 : List Value, rdCells w16 ⟨w11.heap.size, 0, none⟩ 0 23 = some l17 ∧
    ∃ s18 : Sl, ∃ w19 : World, Sem.run Try.prog (Instr.buildSlice Ty.Sl_api_Service 1 #[(0, .agg l17.toArray)]) w16 = .ok (.slice s18.a s18.len s18.cap) w19 ∧
    ∃ s20 : Sl, ∃ w21 : World, Sem.run Try.prog (
      Builtin.append_ #[Ty.Sl_api_Service, Ty.Sl_api_Service] Ty.Sl_api_Service #[.slice s6.a s6.len s6.cap, .slice s18.a s18.len s18.cap])
    w19 = .ok (.slice s20.a s20.len s20.cap) w21 ∧ I4 s20 (IntKind.wrap .i64 (n7 + 1)) w21 ∧
    μ5 s20 (IntKind.wrap .i64 (n7 + 1)) w21 < μ5 s6 n7 w8)
  ∧ ((decide ((n7 : Int) < ((s3.len : Nat) : Int))) = false → Q (.slice s6.a s6.len s6.cap) w8)
def A.conf_Of : AT := (.seq (.reg []) (.seq (.reg []) (.seq (.seq (.reg []) (.blk (.loop [(3, .slice), (11, (.int .i64))] [0, 9, 10] (.seq (.reg []) (.seq (.cond .leaf .leaf) (.seq (.blk (.seq (.reg []) (.seq (.reg []) (.reg [])))) (.reg []))))))) (.seq (.reg []) .leaf))))
theorem W.conf_Of_eq (f : Option Addr) (w : World) (Q : Value → World → Prop) : W.conf_Of f w Q = DF Try.prog tk A.conf_Of Try.f12 [.pointer f] w Q := by kernel_rfl
theorem W.conf_Of_ok (f : Option Addr) (w : World) (Q : Value → World → Prop) (h : W.conf_Of f w Q) : Calls Try.prog F.conf_Of #[.pointer f] w fun e w1 => ∃ v, e = .returned v ∧ Q v w1 :=
  calls_of_DF hmix Try.func12 (by kernel_rfl) (Eq.mp (W.conf_Of_eq f w Q) h)

/-- stanchion/conf.Good -/
def W.conf_Good (l : Sl) (w : World) (Q : Value → World → Prop) : Prop :=
  Calls Try.prog F.conf_good #[.slice l.a l.len l.cap] w fun e2 w1 => ∃ b3 : Bool, e2 = .returned (.bool b3) ∧
  Q (.bool b3) w1
def A.conf_Good : AT := (.seq (.reg []) (.seq (.reg []) .leaf))
theorem W.conf_Good_eq (l : Sl) (w : World) (Q : Value → World → Prop) : W.conf_Good l w Q = DF Try.prog tk A.conf_Good Try.f18 [.slice l.a l.len l.cap] w Q := by kernel_rfl
theorem W.conf_Good_ok (l : Sl) (w : World) (Q : Value → World → Prop) (h : W.conf_Good l w Q) : Calls Try.prog F.conf_Good #[.slice l.a l.len l.cap] w fun e w1 => ∃ v, e = .returned v ∧ Q v w1 :=
  calls_of_DF hmix Try.func18 (by kernel_rfl) (Eq.mp (W.conf_Good_eq l w Q) h)

/-- stanchion/conf.diff -/
def W.conf_diff (a : Sl) (b : Sl) (w : World) (Q : Value → World → Prop) : Prop :=
  Calls Try.prog F.conf_good #[.slice a.a a.len a.cap] w fun e2 w1 => ∃ b3 : Bool, e2 = .returned (.bool b3) ∧
  Jn (
    fun k4 : Bool → World → Prop => ((!b3) = true → k4 true w1) ∧ (
      (!b3) = false → Calls Try.prog F.conf_good #[.slice b.a b.len b.cap] w1 fun e6 w5 =>
      ∃ b7 : Bool, e6 = .returned (.bool b7) ∧ k4 (!b7) w5)
    )
  (
    fun (b8 : Bool) (w9 : World) => (b8 = true → Q (.tuple #[.slice none 0 0, .int .i64 1]) w9) ∧
    (
      b8 = false → Nx (w9.alloc (.cells #[.slice none 0 0] Ty.conf_differ)) fun w10 =>
      ∃ (I11 : Int → World → Prop) (μ12 : Int → World → Nat), I11 0 w10 ∧ ∀ (n13 : Int) (w14 : World), I11 n13 w14 →
      (
        (decide ((n13 : Int) < ((a.len : Nat) : Int))) = true → Jn (
          fun k15 : World → Prop => ∃ a16 : Addr, a.a = some a16 ∧ ((0 : Int) ≤ n13 ∧ n13 < ((a.len : Nat) : Int)) ∧
          ∃ l17 : List Value, rdCells w14 (a16.add (Int.toNat n13 * 23)) 0 23 = some l17 ∧
          Nx (
            w14.alloc (
              .cells #[.int .i64 0, .bool false, .int .u8 0, .int .u8 0, .int .u8 0, .int .u8 0, .int .u8 0, .int .u8 0, .int .u8 0, .int .u8 0, .int .u8 0, .int .u8 0, .int .u8 0, .int .u8 0, .int .u8 0, .int .u8 0, .int .u8 0, .int .u8 0, .int .u16 0, .int .u8 0, .int .i64 0, .int .u64 0, .slice none 0 0] Ty.api_Service)
            )
          fun w18 => StoreOk w18 ⟨w14.heap.size, 0, none⟩ (Array.toList l17.toArray) ∧
          Array.size l17.toArray = 23 ∧ Nx (setCells w18 ⟨w14.heap.size, 0, none⟩ 0 (Array.toList l17.toArray)) fun w19 =>
          ∃ l20 : List Value, rdCells w19 ⟨w14.heap.size, 0, none⟩ 0 23 = some l20 ∧
          Calls Try.prog F.conf_of #[.slice b.a b.len b.cap, .agg l20.toArray] w19 fun e22 w21 =>
          ∃ c23 : Array Value, ∃ b24 : Bool, e22 = .returned (.tuple #[.agg c23, .bool b24]) ∧
          Nx (
            w21.alloc (
              .cells #[.int .i64 0, .bool false, .int .u8 0, .int .u8 0, .int .u8 0, .int .u8 0, .int .u8 0, .int .u8 0, .int .u8 0, .int .u8 0, .int .u8 0, .int .u8 0, .int .u8 0, .int .u8 0, .int .u8 0, .int .u8 0, .int .u8 0, .int .u8 0, .int .u16 0, .int .u8 0, .int .i64 0, .int .u64 0, .slice none 0 0] Ty.api_Service)
            )
          fun w25 => StoreOk w25 ⟨w21.heap.size, 0, none⟩ (Array.toList c23) ∧ Array.size c23 = 23 ∧
          Nx (setCells w25 ⟨w21.heap.size, 0, none⟩ 0 (Array.toList c23)) fun w26 =>
          (
            (!b24) = true → ∃ n27 : Int, w26.cell? ⟨w14.heap.size, 0, none⟩ = some (.int .i64 n27) ∧
            ∃ c28 : Array Value, Sem.run Try.prog (Instr.build Ty.api_Op #[(0, .int .i64 4), (2, .int .i64 n27)]) w26 = .ok (.agg c28) w26 ∧
            Calls Try.prog F.conf_differ_put #[.pointer (some ⟨w9.heap.size, 0, none⟩), .agg c28] w26 fun e30 w29 =>
            e30 = .returned (.tuple #[]) ∧ k15 w29)
          ∧ ((!b24) = false → k15 w26))
        (
          fun  (w31 : World) => I11 (IntKind.wrap .i64 (n13 + 1)) w31 ∧ μ12 (IntKind.wrap .i64 (n13 + 1)) w31 < μ12 n13 w14)
        )
      ∧ (
        (decide ((n13 : Int) < ((a.len : Nat) : Int))) = false → ∃ (I32 : Int → World → Prop) (μ33 : Int → World → Nat), I32 0 w14 ∧
        ∀ (n34 : Int) (w35 : World), I32 n34 w35 → (
          (decide ((n34 : Int) < ((b.len : Nat) : Int))) = true → ∃ a36 : Addr, b.a = some a36 ∧
          ((0 : Int) ≤ n34 ∧ n34 < ((b.len : Nat) : Int)) ∧ ∃ l37 : List Value, rdCells w35 (a36.add (Int.toNat n34 * 23)) 0 23 = some l37 ∧
          Nx (
            w35.alloc (
              .cells #[.int .i64 0, .bool false, .int .u8 0, .int .u8 0, .int .u8 0, .int .u8 0, .int .u8 0, .int .u8 0, .int .u8 0, .int .u8 0, .int .u8 0, .int .u8 0, .int .u8 0, .int .u8 0, .int .u8 0, .int .u8 0, .int .u8 0, .int .u8 0, .int .u16 0, .int .u8 0, .int .i64 0, .int .u64 0, .slice none 0 0] Ty.api_Service)
            )
          fun w38 => StoreOk w38 ⟨w35.heap.size, 0, none⟩ (Array.toList l37.toArray) ∧
          Array.size l37.toArray = 23 ∧ Nx (setCells w38 ⟨w35.heap.size, 0, none⟩ 0 (Array.toList l37.toArray)) fun w39 =>
          ∃ l40 : List Value, rdCells w39 ⟨w35.heap.size, 0, none⟩ 0 23 = some l40 ∧
          Calls Try.prog F.conf_of #[.slice a.a a.len a.cap, .agg l40.toArray] w39 fun e42 w41 =>
          ∃ c43 : Array Value, ∃ b44 : Bool, e42 = .returned (.tuple #[.agg c43, .bool b44]) ∧
          Nx (
            w41.alloc (
              .cells #[.int .i64 0, .bool false, .int .u8 0, .int .u8 0, .int .u8 0, .int .u8 0, .int .u8 0, .int .u8 0, .int .u8 0, .int .u8 0, .int .u8 0, .int .u8 0, .int .u8 0, .int .u8 0, .int .u8 0, .int .u8 0, .int .u8 0, .int .u8 0, .int .u16 0, .int .u8 0, .int .i64 0, .int .u64 0, .slice none 0 0] Ty.api_Service)
            )
          fun w45 => StoreOk w45 ⟨w41.heap.size, 0, none⟩ (Array.toList c43) ∧ Array.size c43 = 23 ∧
          Nx (setCells w45 ⟨w41.heap.size, 0, none⟩ 0 (Array.toList c43)) fun w46 =>
          ∃ l47 : List Value, rdCells w46 ⟨w41.heap.size, 0, none⟩ 0 23 = some l47 ∧
          ∃ l48 : List Value, rdCells w46 ⟨w35.heap.size, 0, none⟩ 0 23 = some l48 ∧
          Calls Try.prog F.conf_differ_service #[.pointer (some ⟨w9.heap.size, 0, none⟩), .agg l47.toArray, .bool b44, .agg l48.toArray] w46 fun e50 w49 =>
          e50 = .returned (.tuple #[]) ∧ I32 (IntKind.wrap .i64 (n34 + 1)) w49 ∧ μ33 (IntKind.wrap .i64 (n34 + 1)) w49 < μ33 n34 w35)
        ∧ (
          (decide ((n34 : Int) < ((b.len : Nat) : Int))) = false → ∃ a51 : Addr, (some ⟨w9.heap.size, 0, none⟩ : Option Addr) = some a51 ∧
          ∃ s52 : Sl, w35.cell? a51 = some (.slice s52.a s52.len s52.cap) ∧ Q (.tuple #[.slice s52.a s52.len s52.cap, .int .i64 0]) w35)
        )
      )
    )
def A.conf_diff : AT := (.seq (.reg []) (.seq (.seq (.reg [.run, .run, .run, .run, .split 3]) (.cond (.seq (.reg []) .leaf) .leaf)) (.seq (.reg []) (.seq (.seq (.reg []) (.blk (.loop [(27, (.int .i64))] [0, 1, 6, 25, 26] (.seq (.reg []) (.seq (.cond .leaf .leaf) (.seq (.jk [] [0, 1, 6, 25, 26, 27] (.blk (.seq (.reg []) (.seq (.reg []) (.seq (.reg []) (.cond (.reg []) .leaf)))))) (.reg []))))))) (.seq (.seq (.reg []) (.blk (.loop [(47, (.int .i64))] [0, 6, 45, 46] (.seq (.reg []) (.seq (.cond .leaf .leaf) (.seq (.blk (.seq (.reg []) (.seq (.reg []) (.reg [])))) (.reg []))))))) (.seq (.reg []) .leaf))))))
theorem W.conf_diff_eq (a : Sl) (b : Sl) (w : World) (Q : Value → World → Prop) : W.conf_diff a b w Q = DF Try.prog tk A.conf_diff Try.f19 [.slice a.a a.len a.cap, .slice b.a b.len b.cap] w Q := by kernel_rfl
theorem W.conf_diff_ok (a : Sl) (b : Sl) (w : World) (Q : Value → World → Prop) (h : W.conf_diff a b w Q) : Calls Try.prog F.conf_diff #[.slice a.a a.len a.cap, .slice b.a b.len b.cap] w fun e w1 => ∃ v, e = .returned v ∧ Q v w1 :=
  calls_of_DF hmix Try.func19 (by kernel_rfl) (Eq.mp (W.conf_diff_eq a b w Q) h)

/-- stanchion/conf.does -/
def W.conf_does (f : Option Addr) (op : Array Value) (w : World) (Q : Value → World → Prop) : Prop :=
  Nx (w.alloc (.cells op Ty.api_Op)) fun w1 => ∃ n2 : Int, w1.cell? ⟨w.heap.size, 0, none⟩ = some (.int .i64 n2) ∧
  (
    ((n2 : Int) == 3) = true → ∃ l3 : List Value, rdCells w1 (Addr.add ⟨w.heap.size, 0, none⟩ 6) 0 23 = some l3 ∧
    Calls Try.prog F.farm_Farm_AddService #[.pointer f, .agg l3.toArray] w1 fun e5 w4 =>
    ∃ n6 : Int, e5 = .returned (.int .i64 n6) ∧ Q (.int .i64 n6) w4)
  ∧ (
    ((n2 : Int) == 3) = false → (
      ((n2 : Int) == 4) = true → ∃ n7 : Int, w1.cell? (Addr.add ⟨w.heap.size, 0, none⟩ 2) = some (.int .i64 n7) ∧
      Calls Try.prog F.farm_Farm_DropService #[.pointer f, .int .i64 n7] w1 fun e9 w8 =>
      ∃ n10 : Int, e9 = .returned (.int .i64 n10) ∧ Q (.int .i64 n10) w8)
    ∧ (
      ((n2 : Int) == 4) = false → (
        ((n2 : Int) == 5) = true → ∃ n11 : Int, w1.cell? (Addr.add ⟨w.heap.size, 0, none⟩ 2) = some (.int .i64 n11) ∧
        ∃ l12 : List Value, rdCells w1 (Addr.add ⟨w.heap.size, 0, none⟩ 29) 0 21 = some l12 ∧
        Calls Try.prog F.farm_Farm_AddBackend #[.pointer f, .int .i64 n11, .agg l12.toArray] w1 fun e14 w13 =>
        ∃ n15 : Int, e14 = .returned (.int .i64 n15) ∧ Q (.int .i64 n15) w13)
      ∧ (
        ((n2 : Int) == 5) = false → (
          ((n2 : Int) == 6) = true → ∃ n16 : Int, w1.cell? (Addr.add ⟨w.heap.size, 0, none⟩ 2) = some (.int .i64 n16) ∧
          ∃ n17 : Int, w1.cell? (Addr.add ⟨w.heap.size, 0, none⟩ 3) = some (.int .i64 n17) ∧
          Calls Try.prog F.farm_Farm_DropBackend #[.pointer f, .int .i64 n16, .int .i64 n17] w1 fun e19 w18 =>
          ∃ n20 : Int, e19 = .returned (.int .i64 n20) ∧ Q (.int .i64 n20) w18)
        ∧ (
          ((n2 : Int) == 6) = false → (
            ((n2 : Int) == 7) = true → ∃ n21 : Int, w1.cell? (Addr.add ⟨w.heap.size, 0, none⟩ 2) = some (.int .i64 n21) ∧
            ∃ n22 : Int, w1.cell? (Addr.add ⟨w.heap.size, 0, none⟩ 3) = some (.int .i64 n22) ∧
            ∃ b23 : Bool, w1.cell? (Addr.add ⟨w.heap.size, 0, none⟩ 5) = some (.bool b23) ∧
            Calls Try.prog F.farm_Farm_Drain #[.pointer f, .int .i64 n21, .int .i64 n22, .bool b23] w1 fun e25 w24 =>
            ∃ n26 : Int, e25 = .returned (.int .i64 n26) ∧ Q (.int .i64 n26) w24)
          ∧ (
            ((n2 : Int) == 7) = false → (
              ((n2 : Int) == 8) = true → ∃ n27 : Int, w1.cell? (Addr.add ⟨w.heap.size, 0, none⟩ 2) = some (.int .i64 n27) ∧
              ∃ n28 : Int, w1.cell? (Addr.add ⟨w.heap.size, 0, none⟩ 3) = some (.int .i64 n28) ∧
              ∃ n29 : Int, w1.cell? (Addr.add ⟨w.heap.size, 0, none⟩ 4) = some (.int .u64 n29) ∧
              Calls Try.prog F.farm_Farm_Weigh #[.pointer f, .int .i64 n27, .int .i64 n28, .int .i64 (IntKind.wrap .i64 n29)] w1 fun e31 w30 =>
              ∃ n32 : Int, e31 = .returned (.int .i64 n32) ∧ Q (.int .i64 n32) w30)
            ∧ (((n2 : Int) == 8) = false → Q (.int .i64 1) w1))
          )
        )
      )
    )
def A.conf_does : AT := (.seq (.reg []) (.seq (.seq (.reg []) (.blk (.seq (.reg []) (.cond (.seq (.reg []) .leaf) (.seq (.reg []) (.cond (.seq (.reg []) .leaf) (.seq (.reg []) (.cond (.seq (.reg []) .leaf) (.seq (.reg []) (.cond (.seq (.reg []) .leaf) (.seq (.reg []) (.cond (.seq (.reg []) .leaf) (.seq (.reg []) (.cond (.seq (.reg []) .leaf) .leaf)))))))))))))) (.seq (.reg []) .leaf)))
theorem W.conf_does_eq (f : Option Addr) (op : Array Value) (w : World) (Q : Value → World → Prop) : W.conf_does f op w Q = DF Try.prog tk A.conf_does Try.f20 [.pointer f, .agg op] w Q := by kernel_rfl
theorem W.conf_does_ok (f : Option Addr) (op : Array Value) (w : World) (Q : Value → World → Prop) (h : W.conf_does f op w Q) : Calls Try.prog F.conf_does #[.pointer f, .agg op] w fun e w1 => ∃ v, e = .returned v ∧ Q v w1 :=
  calls_of_DF hmix Try.func20 (by kernel_rfl) (Eq.mp (W.conf_does_eq f op w Q) h)

/-- (*stanchion/farm.Farm).IDs -/
def W.farm_Farm_IDs (f : Option Addr) (w : World) (Q : Value → World → Prop) : Prop :=
  ((Option.isNone f) = true → Q (.slice none 0 0) w) ∧ (
    (Option.isNone f) = false → ∃ a1 : Addr, f = some a1 ∧ ∃ m2 : Option Nat, w.cell? a1 = some (.map m2) ∧
    Calls Try.prog F.maps_Keys_map_int_P_api_Service_int_P_api_Service #[.map m2] w fun e4 w3 =>
    ∃ g5 : Fv, e4 = .returned (.func (.func g5.f) g5.pre g5.cap) ∧ Calls Try.prog F.slices_Sorted_int #[.func (.func g5.f) g5.pre g5.cap] w3 fun e7 w6 =>
    ∃ s8 : Sl, e7 = .returned (.slice s8.a s8.len s8.cap) ∧ Q (.slice s8.a s8.len s8.cap) w6)
def A.farm_Farm_IDs : AT := (.seq (.reg []) (.seq (.seq (.reg []) (.cond (.seq (.reg []) .leaf) .leaf)) (.seq (.reg []) .leaf)))
theorem W.farm_Farm_IDs_eq (f : Option Addr) (w : World) (Q : Value → World → Prop) : W.farm_Farm_IDs f w Q = DF Try.prog tk A.farm_Farm_IDs Try.f21 [.pointer f] w Q := by kernel_rfl
theorem W.farm_Farm_IDs_ok (f : Option Addr) (w : World) (Q : Value → World → Prop) (h : W.farm_Farm_IDs f w Q) : Calls Try.prog F.farm_Farm_IDs #[.pointer f] w fun e w1 => ∃ v, e = .returned v ∧ Q v w1 :=
  calls_of_DF hmix Try.func21 (by kernel_rfl) (Eq.mp (W.farm_Farm_IDs_eq f w Q) h)

/-- (*stanchion/farm.Farm).Service -/
def W.farm_Farm_Service (f : Option Addr) (id : Int) (w : World) (Q : Value → World → Prop) : Prop :=
  Nx (
    w.alloc (
      .cells #[.int .i64 0, .bool false, .int .u8 0, .int .u8 0, .int .u8 0, .int .u8 0, .int .u8 0, .int .u8 0, .int .u8 0, .int .u8 0, .int .u8 0, .int .u8 0, .int .u8 0, .int .u8 0, .int .u8 0, .int .u8 0, .int .u8 0, .int .u8 0, .int .u16 0, .int .u8 0, .int .i64 0, .int .u64 0, .slice none 0 0] Ty.api_Service)
    )
  fun w1 => (
    (Option.isNone f) = true → ∃ c2 : Array Value, Sem.run Try.prog (Instr.build Ty.api_Service #[]) w1 = .ok (.agg c2) w1 ∧
    StoreOk w1 ⟨w.heap.size, 0, none⟩ (Array.toList c2) ∧ Array.size c2 = 23 ∧
    Nx (setCells w1 ⟨w.heap.size, 0, none⟩ 0 (Array.toList c2)) fun w3 => ∃ l4 : List Value, rdCells w3 ⟨w.heap.size, 0, none⟩ 0 23 = some l4 ∧
    Q (.tuple #[.agg l4.toArray, .bool false]) w3)
  ∧ (
    (Option.isNone f) = false → ∃ a5 : Addr, f = some a5 ∧ ∃ m6 : Option Nat, w1.cell? a5 = some (.map m6) ∧
    ∃ p7 : Option Addr, ∃ b8 : Bool, ∃ w9 : World, Sem.run Try.prog (Instr.lookup Ty.map_int_P_api_Service (.map m6) (.int .i64 id) true) w1 = .ok (.tuple #[.pointer p7, .bool b8]) w9 ∧
    (
      (!b8) = true → ∃ c10 : Array Value, Sem.run Try.prog (Instr.build Ty.api_Service #[]) w9 = .ok (.agg c10) w9 ∧
      StoreOk w9 ⟨w.heap.size, 0, none⟩ (Array.toList c10) ∧ Array.size c10 = 23 ∧
      Nx (setCells w9 ⟨w.heap.size, 0, none⟩ 0 (Array.toList c10)) fun w11 => ∃ l12 : List Value, rdCells w11 ⟨w.heap.size, 0, none⟩ 0 23 = some l12 ∧
      Q (.tuple #[.agg l12.toArray, .bool false]) w11)
    ∧ (
      (!b8) = false → ∃ a13 : Addr, p7 = some a13 ∧ ∃ l14 : List Value, rdCells w9 a13 0 23 = some l14 ∧
      Nx (
        w9.alloc (
          .cells #[.int .i64 0, .bool false, .int .u8 0, .int .u8 0, .int .u8 0, .int .u8 0, .int .u8 0, .int .u8 0, .int .u8 0, .int .u8 0, .int .u8 0, .int .u8 0, .int .u8 0, .int .u8 0, .int .u8 0, .int .u8 0, .int .u8 0, .int .u8 0, .int .u16 0, .int .u8 0, .int .i64 0, .int .u64 0, .slice none 0 0] Ty.api_Service)
        )
      fun w15 => StoreOk w15 ⟨w9.heap.size, 0, none⟩ (Array.toList l14.toArray) ∧
      Array.size l14.toArray = 23 ∧ Nx (setCells w15 ⟨w9.heap.size, 0, none⟩ 0 (Array.toList l14.toArray)) fun w16 =>
      ∃ a17 : Addr, p7 = some a17 ∧ ∃ s18 : Sl, w16.cell? (a17.add 22) = some (.slice s18.a s18.len s18.cap) ∧
      Calls Try.prog F.slices_Clone_Sl_api_Backend_api_Backend #[.slice s18.a s18.len s18.cap] w16 fun e20 w19 =>
      ∃ s21 : Sl, e20 = .returned (.slice s21.a s21.len s21.cap) ∧ (∃ u : Value, w19.cell? (Addr.add ⟨w9.heap.size, 0, none⟩ 22) = some u) ∧
      w19.frozen? (Addr.add ⟨w9.heap.size, 0, none⟩ 22) = false ∧ Nx (w19.setCell (Addr.add ⟨w9.heap.size, 0, none⟩ 22) (.slice s21.a s21.len s21.cap)) fun w22 =>
      ∃ l23 : List Value, rdCells w22 ⟨w9.heap.size, 0, none⟩ 0 23 = some l23 ∧
      StoreOk w22 ⟨w.heap.size, 0, none⟩ (Array.toList l23.toArray) ∧ Array.size l23.toArray = 23 ∧
      Nx (setCells w22 ⟨w.heap.size, 0, none⟩ 0 (Array.toList l23.toArray)) fun w24 =>
      ∃ l25 : List Value, rdCells w24 ⟨w.heap.size, 0, none⟩ 0 23 = some l25 ∧ Q (.tuple #[.agg l25.toArray, .bool true]) w24)
    )
def A.farm_Farm_Service : AT := (.seq (.reg []) (.seq (.seq (.reg []) (.cond (.seq (.reg []) .leaf) .leaf)) (.seq (.reg []) (.seq (.seq (.reg []) (.cond (.seq (.reg []) .leaf) .leaf)) (.seq (.reg []) (.seq (.reg []) (.seq (.reg []) .leaf)))))))
theorem W.farm_Farm_Service_eq (f : Option Addr) (id : Int) (w : World) (Q : Value → World → Prop) : W.farm_Farm_Service f id w Q = DF Try.prog tk A.farm_Farm_Service Try.f22 [.pointer f, .int .i64 id] w Q := by kernel_rfl
theorem W.farm_Farm_Service_ok (f : Option Addr) (id : Int) (w : World) (Q : Value → World → Prop) (h : W.farm_Farm_Service f id w Q) : Calls Try.prog F.farm_Farm_Service #[.pointer f, .int .i64 id] w fun e w1 => ∃ v, e = .returned v ∧ Q v w1 :=
  calls_of_DF hmix Try.func22 (by kernel_rfl) (Eq.mp (W.farm_Farm_Service_eq f id w Q) h)

/-- (*stanchion/farm.Farm).DropService -/
def W.farm_Farm_DropService (f : Option Addr) (id : Int) (w : World) (Q : Value → World → Prop) : Prop :=
  ((Option.isNone f) = true → Q (.int .i64 1) w) ∧ (
    (Option.isNone f) = false → ∃ a1 : Addr, f = some a1 ∧ ∃ m2 : Option Nat, w.cell? a1 = some (.map m2) ∧
    ∃ p3 : Option Addr, ∃ b4 : Bool, ∃ w5 : World, Sem.run Try.prog (Instr.lookup Ty.map_int_P_api_Service (.map m2) (.int .i64 id) true) w = .ok (.tuple #[.pointer p3, .bool b4]) w5 ∧
    ((!b4) = true → Q (.int .i64 6) w5) ∧ (
      (!b4) = false → ∃ a6 : Addr, f = some a6 ∧ ∃ m7 : Option Nat, w5.cell? a6 = some (.map m7) ∧
      ∃ (r8 : Value) (w9 : World), Sem.run Try.prog (Builtin.delete_ #[Ty.map_int_P_api_Service, Ty.int] Ty.t #[.map m7, .int .i64 id]) w5 = .ok r8 w9 ∧
      Nx (w9.drew) fun w10 => ∃ W11 : Nat → Prop, ∃ a12 : Addr, f = some a12 ∧ ¬ W11 (a12.add 1).block ∧
      ∃ m13 : Option Nat, w10.cell? (a12.add 1) = some (.map m13) ∧ ∃ a14 : Addr, p3 = some a14 ∧
      ¬ W11 a14.block ∧ ∃ l15 : List Value, rdCells w10 a14 0 23 = some l15 ∧ Calls Try.prog F.farm_of #[.agg l15.toArray] w10 fun e17 w16 =>
      ∃ c18 : Array Value, e17 = .returned (.agg c18) ∧ Chg W11 w10 w16 ∧ ∃ (r19 : Value) (w20 : World), Sem.run Try.prog (Builtin.delete_ #[Ty.map_farm_door_int, Ty.farm_door] Ty.t #[.map m13, .agg c18]) w16 = .ok r19 w20 ∧
      Q (.int .i64 0) w20)
    )
def A.farm_Farm_DropService : AT := (.seq (.reg []) (.seq (.seq (.reg []) (.cond (.seq (.reg []) .leaf) .leaf)) (.seq (.reg []) (.seq (.seq (.reg []) (.cond (.seq (.reg []) .leaf) .leaf)) (.seq (.reg []) (.seq (.drw 8 true ⟨[0, 1, 2, 4, 0, 16, 32, 64, 136], [0, 1, 2, 4, 0, 16, 32, 64, 136]⟩ [33554432, 67108864, 134217728, 268435456, 536870912, 1073741824, 2147483648, 4294967296, 0] [1, 33554432, 67108864, 134217728, 32, 536870912, 1073741824, 2147483648, 4563402752] (.take 0 (.take 1 (.take 2 (.take 3 (.take 4 (.take 5 (.take 6 (.eff 7 (.tail [.run])))))))))) (.seq (.reg []) .leaf)))))))
theorem W.farm_Farm_DropService_eq (f : Option Addr) (id : Int) (w : World) (Q : Value → World → Prop) : W.farm_Farm_DropService f id w Q = DF Try.prog tk A.farm_Farm_DropService Try.f24 [.pointer f, .int .i64 id] w Q := by kernel_rfl
theorem W.farm_Farm_DropService_ok (f : Option Addr) (id : Int) (w : World) (Q : Value → World → Prop) (h : W.farm_Farm_DropService f id w Q) : Calls Try.prog F.farm_Farm_DropService #[.pointer f, .int .i64 id] w fun e w1 => ∃ v, e = .returned v ∧ Q v w1 :=
  calls_of_DF hmix Try.func24 (by kernel_rfl) (Eq.mp (W.farm_Farm_DropService_eq f id w Q) h)

/-- (*stanchion/farm.Farm).AddBackend -/
def W.farm_Farm_AddBackend (f : Option Addr) (sid : Int) (b : Array Value) (w : World) (Q : Value → World → Prop) : Prop :=
  Nx (w.alloc (.cells b Ty.api_Backend)) fun w1 => ((Option.isNone f) = true → Q (.int .i64 1) w1) ∧
  (
    (Option.isNone f) = false → ∃ a2 : Addr, f = some a2 ∧ ∃ m3 : Option Nat, w1.cell? a2 = some (.map m3) ∧
    ∃ p4 : Option Addr, ∃ b5 : Bool, ∃ w6 : World, Sem.run Try.prog (Instr.lookup Ty.map_int_P_api_Service (.map m3) (.int .i64 sid) true) w1 = .ok (.tuple #[.pointer p4, .bool b5]) w6 ∧
    ((!b5) = true → Q (.int .i64 6) w6) ∧ (
      (!b5) = false → ∃ n7 : Int, w6.cell? ⟨w.heap.size, 0, none⟩ = some (.int .i64 n7) ∧
      Calls Try.prog F.farm_at #[.pointer p4, .int .i64 n7] w6 fun e9 w8 => ∃ n10 : Int, ∃ b11 : Bool, e9 = .returned (.tuple #[.int .i64 n10, .bool b11]) ∧
      Jn (
        fun k12 : Bool → World → Prop => Nx (w8.drew) fun w13 => ∃ W14 : Nat → Prop, ¬ W14 (⟨w.heap.size, 0, none⟩ : Addr).block ∧
        ∃ n15 : Int, w13.cell? ⟨w.heap.size, 0, none⟩ = some (.int .i64 n15) ∧ Calls Try.prog F.farm_id #[.int .i64 n15] w13 fun e17 w16 =>
        ∃ b18 : Bool, e17 = .returned (.bool b18) ∧ ∃ W19 : Nat → Prop, (
          (!b18) = true → Jn (
            fun k20 : Bool → World → Prop => (true = true → k20 true w16) ∧ (
              true = false → ∃ n21 : Int, w16.cell? (Addr.add ⟨w.heap.size, 0, none⟩ 18) = some (.int .u16 n21) ∧
              k20 ((n21 : Int) == 0) w16)
            )
          (
            fun (b22 : Bool) (w23 : World) => Jn (
              fun k24 : Bool → World → Prop => (b22 = true → k24 true w23) ∧ (
                b22 = false → ∃ n25 : Int, w23.cell? (Addr.add ⟨w.heap.size, 0, none⟩ 19) = some (.int .i64 n25) ∧
                Calls Try.prog F.farm_weight #[.int .i64 n25] w23 fun e27 w26 => ∃ b28 : Bool, e27 = .returned (.bool b28) ∧
                k24 (!b28) w26)
              )
            (
              fun (b29 : Bool) (w30 : World) => Jn (
                fun k31 : Bool → World → Prop => (b29 = true → k31 true w30) ∧ (
                  b29 = false → ∃ b32 : Bool, w30.cell? (Addr.add ⟨w.heap.size, 0, none⟩ 20) = some (.bool b32) ∧
                  k31 b32 w30)
                )
              (fun (b33 : Bool) (w34 : World) => k12 b33 w34))
            )
          )
        ∧ (
          (!b18) = false → ¬ W19 (Addr.add ⟨w.heap.size, 0, none⟩ 1).block ∧ ∃ l35 : List Value, rdCells w16 (Addr.add ⟨w.heap.size, 0, none⟩ 1) 0 17 = some l35 ∧
          Calls Try.prog F.addr_Good #[.agg l35.toArray] w16 fun e37 w36 => ∃ b38 : Bool, e37 = .returned (.bool b38) ∧
          Chg W19 w16 w36 ∧ (
            (!b38) = true → Jn (
              fun k39 : Bool → World → Prop => (true = true → k39 true w36) ∧ (
                true = false → ∃ n40 : Int, w36.cell? (Addr.add ⟨w.heap.size, 0, none⟩ 18) = some (.int .u16 n40) ∧
                k39 ((n40 : Int) == 0) w36)
              )
            (
              fun (b41 : Bool) (w42 : World) => Jn (
                fun k43 : Bool → World → Prop => (b41 = true → k43 true w42) ∧ (
                  b41 = false → ∃ n44 : Int, w42.cell? (Addr.add ⟨w.heap.size, 0, none⟩ 19) = some (.int .i64 n44) ∧
                  Calls Try.prog F.farm_weight #[.int .i64 n44] w42 fun e46 w45 => ∃ b47 : Bool, e46 = .returned (.bool b47) ∧
                  k43 (!b47) w45)
                )
              (
                fun (b48 : Bool) (w49 : World) => Jn (
                  fun k50 : Bool → World → Prop => (b48 = true → k50 true w49) ∧ (
                    b48 = false → ∃ b51 : Bool, w49.cell? (Addr.add ⟨w.heap.size, 0, none⟩ 20) = some (.bool b51) ∧
                    k50 b51 w49)
                  )
                (fun (b52 : Bool) (w53 : World) => k12 b52 w53))
              )
            )
          ∧ (
            (!b38) = false → ¬ W19 (Addr.add ⟨w.heap.size, 0, none⟩ 1).block ∧ ∃ b54 : Bool, w36.cell? (Addr.add ⟨w.heap.size, 0, none⟩ 1) = some (.bool b54) ∧
            ∃ a55 : Addr, p4 = some a55 ∧ ¬ W19 (a55.add 1).block ∧ ∃ b56 : Bool, w36.cell? (a55.add 1) = some (.bool b56) ∧
            Jn (
              fun k57 : Bool → World → Prop => ((!(b54 == b56)) = true → k57 true w36) ∧
              (
                (!(b54 == b56)) = false → ∃ n58 : Int, w36.cell? (Addr.add ⟨w.heap.size, 0, none⟩ 18) = some (.int .u16 n58) ∧
                k57 ((n58 : Int) == 0) w36)
              )
            (
              fun (b59 : Bool) (w60 : World) => Jn (
                fun k61 : Bool → World → Prop => (b59 = true → k61 true w60) ∧ (
                  b59 = false → ∃ n62 : Int, w60.cell? (Addr.add ⟨w.heap.size, 0, none⟩ 19) = some (.int .i64 n62) ∧
                  Calls Try.prog F.farm_weight #[.int .i64 n62] w60 fun e64 w63 => ∃ b65 : Bool, e64 = .returned (.bool b65) ∧
                  k61 (!b65) w63)
                )
              (
                fun (b66 : Bool) (w67 : World) => Jn (
                  fun k68 : Bool → World → Prop => (b66 = true → k68 true w67) ∧ (
                    b66 = false → ∃ b69 : Bool, w67.cell? (Addr.add ⟨w.heap.size, 0, none⟩ 20) = some (.bool b69) ∧
                    k68 b69 w67)
                  )
                (fun (b70 : Bool) (w71 : World) => k12 b70 w71))
              )
            )
          )
        )
      (
        fun (b72 : Bool) (w73 : World) => (b72 = true → Q (.int .i64 1) w73) ∧ (
          b72 = false → (b11 = true → Q (.int .i64 7) w73) ∧ (
            b11 = false → ∃ a74 : Addr, p4 = some a74 ∧ ∃ s75 : Sl, w73.cell? (a74.add 22) = some (.slice s75.a s75.len s75.cap) ∧
            ((decide ((((s75.len : Nat) : Int) : Int) ≥ 16)) = true → Q (.int .i64 2) w73) ∧
            (
              (decide ((((s75.len : Nat) : Int) : Int) ≥ 16)) = false → Nx (w73.drew) fun w76 =>
              ∃ W77 : Nat → Prop, ∃ a78 : Addr, p4 = some a78 ∧ ¬ W77 (a78.add 22).block ∧
              ∃ s79 : Sl, w76.cell? (a78.add 22) = some (.slice s79.a s79.len s79.cap) ∧
              ¬ W77 (⟨w.heap.size, 0, none⟩ : Addr).block ∧ ∃ l80 : List Value, rdCells w76 ⟨w.heap.size, 0, none⟩ 0 21 = some l80 ∧
              ∃ s81 : Sl, ∃ w82 : World, Sem.run Try.prog (Instr.buildSlice Ty.Sl_api_Backend 1 #[(0, .agg l80.toArray)]) w76 = .ok (.slice s81.a s81.len s81.cap) w82 ∧
              Chg W77 w76 w82 ∧ Calls Try.prog F.slices_Insert_Sl_api_Backend_api_Backend #[.slice s79.a s79.len s79.cap, .int .i64 n10, .slice s81.a s81.len s81.cap] w82 fun e84 w83 =>
              ∃ s85 : Sl, e84 = .returned (.slice s85.a s85.len s85.cap) ∧ Chg W77 w82 w83 ∧
              ∃ a86 : Addr, p4 = some a86 ∧ (∃ u : Value, w83.cell? (a86.add 22) = some u) ∧
              w83.frozen? (a86.add 22) = false ∧ Nx (w83.setCell (a86.add 22) (.slice s85.a s85.len s85.cap)) fun w87 =>
              Q (.int .i64 0) w87)
            )
          )
        )
      )
    )
def A.farm_Farm_AddBackend : AT := (.seq (.reg []) (.seq (.seq (.reg []) (.cond (.seq (.reg []) .leaf) .leaf)) (.seq (.reg []) (.seq (.seq (.reg []) (.cond (.seq (.reg []) .leaf) .leaf)) (.seq (.reg []) (.seq (.blk (.seq (.jk [(31, .bool)] [5, 7, 9, 10] (.drw 19 true ⟨[0, 1, 2, 4, 12, 16, 48, 80, 144, 272, 640, 1024, 3072, 5120, 1024, 17408, 33792, 66560, 132096, 271360, 525312, 1049600, 2097152, 6291456, 10485760, 18874368, 35651584, 67108864, 201326592, 335544320, 603979776, 1140850688, 2684354560, 4294967296, 12884901888, 21474836480, 38654705664], [0, 1, 2, 4, 8, 16, 48, 80, 144, 272, 512, 1024, 3072, 5120, 1024, 17408, 33792, 66560, 132096, 271360, 525312, 1048576, 2097152, 6291456, 10485760, 18874368, 33554432, 67108864, 201326592, 335544320, 603979776, 1140850688, 2147483648, 4294967296, 12884901888, 21474836480, 34359738368]⟩ [4294967296, 8589934592, 17179869184, 34359738368, 68719476736, 137438953472, 274877906944, 549755813888, 1099511627776, 2199023255552, 4398046511104, 8796093022208, 17592186044416, 35184372088832, 70368744177664, 140737488355328, 281474976710656, 562949953421312, 1125899906842624, 2251799813685248, 4503599627370496, 9007199254740992, 18014398509481984, 36028797018963968, 72057594037927936, 144115188075855872, 288230376151711744, 576460752303423488, 1152921504606846976, 2305843009213693952, 4611686018427387904, 9223372036854775808, 18446744073709551616, 36893488147419103232, 73786976294838206464, 147573952589676412928, 2147483648] [32, 4294967296, 8589934592, 17179869184, 34359738368, 68719476768, 206158430208, 343597383680, 618475290624, 1168231104512, 2199023255552, 4398046511136, 13194139533312, 21990232555520, 4398046511232, 74766790688768, 145135534866432, 285873023221760, 567347999932416, 1165482325442560, 2256197860196352, 4503599627370496, 9007199254741024, 27021597764222976, 45035996273704960, 81064793292668928, 144115188075855872, 288230376151711776, 864691128455135232, 1441151880758558720, 2594073385365405696, 4899916394579099648, 9223372036854775808, 18446744073709551648, 55340232221128654848, 92233720368547758080, 147573952589676412928] (.take 0 (.take 1 (.out 2 true (.take 3 (.take 4 (.sp 36 (.take 5 (.take 6 (.take 7 (.take 8 (.take 9 (.take 10 (.take 11 (.take 12 (.take 13 (.take 14 (.take 15 (.take 16 (.take 17 (.take 18 (.tail [.run, .run, .run, .split 3, .run, .run, .run, .run, .split 4, .run, .run, .run, .run, .run, .split 2, .run, .run, .run]))))))))))))))) (.take 5 (.take 6 (.eff 7 (.take 8 (.take 9 (.take 10 (.sp 42 (.take 11 (.take 12 (.take 13 (.take 14 (.take 15 (.take 16 (.take 17 (.take 18 (.tail [.run, .run, .run, .split 3, .run, .run, .run, .run, .split 4, .run, .run, .run, .run, .run, .split 2, .run, .run, .run]))))))))) (.take 11 (.take 12 (.take 13 (.take 14 (.take 15 (.take 16 (.take 17 (.take 18 (.tail [.run, .run, .run, .split 3, .run, .run, .run, .run, .split 4, .run, .run, .run, .run, .run, .split 2, .run, .run, .run])))))))))))))))))))))))) (.cond (.seq (.reg []) .leaf) (.seq (.reg []) (.cond (.seq (.reg []) .leaf) (.seq (.reg []) (.cond (.seq (.reg []) .leaf) .leaf))))))) (.seq (.drw 9 true ⟨[0, 0, 2, 4, 8, 0, 0, 64, 176, 511, 1023, 1535], [0, 0, 2, 4, 8, 0, 0, 64, 176, 1, 512, 1280]⟩ [151115727451828646838272, 302231454903657293676544, 604462909807314587353088, 1208925819614629174706176, 2417851639229258349412352, 4835703278458516698824704, 9671406556917033397649408, 19342813113834066795298816, 38685626227668133590597632, 77371252455336267181195264, 154742504910672534362390528, 0] [128, 128, 302231454903657293676544, 604462909807314587353088, 1208925819614629174706176, 512, 32, 9671406556917033397649408, 26596368031521841843535872, 151115727451828646838272, 77371252455336267181195264, 193428131138340667952988160] (.take 0 (.take 1 (.take 2 (.take 3 (.take 4 (.take 5 (.take 6 (.eff 7 (.eff 8 (.tail [.run, .run, .run]))))))))))) (.seq (.reg []) .leaf))))))))
theorem W.farm_Farm_AddBackend_eq (f : Option Addr) (sid : Int) (b : Array Value) (w : World) (Q : Value → World → Prop) : W.farm_Farm_AddBackend f sid b w Q = DF Try.prog tk A.farm_Farm_AddBackend Try.f26 [.pointer f, .int .i64 sid, .agg b] w Q := by kernel_rfl
theorem W.farm_Farm_AddBackend_ok (f : Option Addr) (sid : Int) (b : Array Value) (w : World) (Q : Value → World → Prop) (h : W.farm_Farm_AddBackend f sid b w Q) : Calls Try.prog F.farm_Farm_AddBackend #[.pointer f, .int .i64 sid, .agg b] w fun e w1 => ∃ v, e = .returned v ∧ Q v w1 :=
  calls_of_DF hmix Try.func26 (by kernel_rfl) (Eq.mp (W.farm_Farm_AddBackend_eq f sid b w Q) h)

/-- (*stanchion/farm.Farm).DropBackend -/
def W.farm_Farm_DropBackend (f : Option Addr) (sid : Int) (backend : Int) (w : World) (Q : Value → World → Prop) : Prop :=
  Calls Try.prog F.farm_Farm_find #[.pointer f, .int .i64 sid, .int .i64 backend] w fun e2 w1 =>
  ∃ p3 : Option Addr, ∃ n4 : Int, ∃ n5 : Int, e2 = .returned (.tuple #[.pointer p3, .int .i64 n4, .int .i64 n5]) ∧
  Jn (
    fun k6 : World → Prop => (
      ((n5 : Int) == 0) = true → ∃ a7 : Addr, p3 = some a7 ∧ ∃ s8 : Sl, w1.cell? (a7.add 22) = some (.slice s8.a s8.len s8.cap) ∧
      Calls Try.prog F.slices_Delete_Sl_api_Backend_api_Backend #[.slice s8.a s8.len s8.cap, .int .i64 n4, .int .i64 (IntKind.wrap .i64 (n4 + 1))] w1 fun e10 w9 =>
      ∃ s11 : Sl, e10 = .returned (.slice s11.a s11.len s11.cap) ∧ ∃ a12 : Addr, p3 = some a12 ∧
      (∃ u : Value, w9.cell? (a12.add 22) = some u) ∧ w9.frozen? (a12.add 22) = false ∧
      Nx (w9.setCell (a12.add 22) (.slice s11.a s11.len s11.cap)) fun w13 => k6 w13)
    ∧ (((n5 : Int) == 0) = false → k6 w1))
  (fun  (w14 : World) => Q (.int .i64 n5) w14)
def A.farm_Farm_DropBackend : AT := (.seq (.reg []) (.seq (.reg []) (.seq (.jk [] [9] (.seq (.reg []) (.cond (.reg []) .leaf))) (.seq (.reg []) .leaf))))
theorem W.farm_Farm_DropBackend_eq (f : Option Addr) (sid : Int) (backend : Int) (w : World) (Q : Value → World → Prop) : W.farm_Farm_DropBackend f sid backend w Q = DF Try.prog tk A.farm_Farm_DropBackend Try.f28 [.pointer f, .int .i64 sid, .int .i64 backend] w Q := by kernel_rfl
theorem W.farm_Farm_DropBackend_ok (f : Option Addr) (sid : Int) (backend : Int) (w : World) (Q : Value → World → Prop) (h : W.farm_Farm_DropBackend f sid backend w Q) : Calls Try.prog F.farm_Farm_DropBackend #[.pointer f, .int .i64 sid, .int .i64 backend] w fun e w1 => ∃ v, e = .returned v ∧ Q v w1 :=
  calls_of_DF hmix Try.func28 (by kernel_rfl) (Eq.mp (W.farm_Farm_DropBackend_eq f sid backend w Q) h)

/-- (*stanchion/farm.Farm).Drain -/
def W.farm_Farm_Drain (f : Option Addr) (sid : Int) (backend : Int) (v_on : Bool) (w : World) (Q : Value → World → Prop) : Prop :=
  Calls Try.prog F.farm_Farm_find #[.pointer f, .int .i64 sid, .int .i64 backend] w fun e2 w1 =>
  ∃ p3 : Option Addr, ∃ n4 : Int, ∃ n5 : Int, e2 = .returned (.tuple #[.pointer p3, .int .i64 n4, .int .i64 n5]) ∧
  Jn (
    fun k6 : World → Prop => (
      ((n5 : Int) == 0) = true → ∃ a7 : Addr, p3 = some a7 ∧ ∃ s8 : Sl, w1.cell? (a7.add 22) = some (.slice s8.a s8.len s8.cap) ∧
      ∃ a9 : Addr, s8.a = some a9 ∧ ((0 : Int) ≤ n4 ∧ n4 < ((s8.len : Nat) : Int)) ∧
      (∃ u : Value, w1.cell? ((a9.add (Int.toNat n4 * 21)).add 20) = some u) ∧ w1.frozen? ((a9.add (Int.toNat n4 * 21)).add 20) = false ∧
      Nx (w1.setCell ((a9.add (Int.toNat n4 * 21)).add 20) (.bool v_on)) fun w10 =>
      k6 w10)
    ∧ (((n5 : Int) == 0) = false → k6 w1))
  (fun  (w11 : World) => Q (.int .i64 n5) w11)
def A.farm_Farm_Drain : AT := (.seq (.reg []) (.seq (.reg []) (.seq (.jk [] [11] (.seq (.reg []) (.cond (.reg []) .leaf))) (.seq (.reg []) .leaf))))
theorem W.farm_Farm_Drain_eq (f : Option Addr) (sid : Int) (backend : Int) (v_on : Bool) (w : World) (Q : Value → World → Prop) : W.farm_Farm_Drain f sid backend v_on w Q = DF Try.prog tk A.farm_Farm_Drain Try.f30 [.pointer f, .int .i64 sid, .int .i64 backend, .bool v_on] w Q := by kernel_rfl
theorem W.farm_Farm_Drain_ok (f : Option Addr) (sid : Int) (backend : Int) (v_on : Bool) (w : World) (Q : Value → World → Prop) (h : W.farm_Farm_Drain f sid backend v_on w Q) : Calls Try.prog F.farm_Farm_Drain #[.pointer f, .int .i64 sid, .int .i64 backend, .bool v_on] w fun e w1 => ∃ v, e = .returned v ∧ Q v w1 :=
  calls_of_DF hmix Try.func30 (by kernel_rfl) (Eq.mp (W.farm_Farm_Drain_eq f sid backend v_on w Q) h)

/-- (*stanchion/farm.Farm).Weigh -/
def W.farm_Farm_Weigh (f : Option Addr) (sid : Int) (backend : Int) (n : Int) (w : World) (Q : Value → World → Prop) : Prop :=
  Calls Try.prog F.farm_Farm_find #[.pointer f, .int .i64 sid, .int .i64 backend] w fun e2 w1 =>
  ∃ p3 : Option Addr, ∃ n4 : Int, ∃ n5 : Int, e2 = .returned (.tuple #[.pointer p3, .int .i64 n4, .int .i64 n5]) ∧
  (((n5 : Int) != 0) = true → Q (.int .i64 n5) w1) ∧ (
    ((n5 : Int) != 0) = false → Calls Try.prog F.farm_weight #[.int .i64 n] w1 fun e7 w6 =>
    ∃ b8 : Bool, e7 = .returned (.bool b8) ∧ ((!b8) = true → Q (.int .i64 1) w6) ∧
    (
      (!b8) = false → ∃ a9 : Addr, p3 = some a9 ∧ ∃ s10 : Sl, w6.cell? (a9.add 22) = some (.slice s10.a s10.len s10.cap) ∧
      ∃ a11 : Addr, s10.a = some a11 ∧ ((0 : Int) ≤ n4 ∧ n4 < ((s10.len : Nat) : Int)) ∧
      (∃ u : Value, w6.cell? ((a11.add (Int.toNat n4 * 21)).add 19) = some u) ∧
      w6.frozen? ((a11.add (Int.toNat n4 * 21)).add 19) = false ∧ Nx (w6.setCell ((a11.add (Int.toNat n4 * 21)).add 19) (.int .i64 n)) fun w12 =>
      Q (.int .i64 0) w12)
    )
def A.farm_Farm_Weigh : AT := (.seq (.reg []) (.seq (.reg []) (.seq (.blk (.seq (.reg []) (.cond (.seq (.reg []) .leaf) (.seq (.reg []) (.cond (.seq (.reg []) .leaf) .leaf))))) (.seq (.reg []) (.seq (.reg []) .leaf)))))
theorem W.farm_Farm_Weigh_eq (f : Option Addr) (sid : Int) (backend : Int) (n : Int) (w : World) (Q : Value → World → Prop) : W.farm_Farm_Weigh f sid backend n w Q = DF Try.prog tk A.farm_Farm_Weigh Try.f31 [.pointer f, .int .i64 sid, .int .i64 backend, .int .i64 n] w Q := by kernel_rfl
theorem W.farm_Farm_Weigh_ok (f : Option Addr) (sid : Int) (backend : Int) (n : Int) (w : World) (Q : Value → World → Prop) (h : W.farm_Farm_Weigh f sid backend n w Q) : Calls Try.prog F.farm_Farm_Weigh #[.pointer f, .int .i64 sid, .int .i64 backend, .int .i64 n] w fun e w1 => ∃ v, e = .returned v ∧ Q v w1 :=
  calls_of_DF hmix Try.func31 (by kernel_rfl) (Eq.mp (W.farm_Farm_Weigh_eq f sid backend n w Q) h)

/-- (*stanchion/farm.Farm).AddService -/
def W.farm_Farm_AddService (f : Option Addr) (s : Array Value) (w : World) (Q : Value → World → Prop) : Prop :=
  Nx (w.alloc (.cells s Ty.api_Service)) fun w1 => Jn (
    fun k2 : Bool → World → Prop => ((Option.isNone f) = true → k2 true w1) ∧
    (
      (Option.isNone f) = false → ∃ l3 : List Value, rdCells w1 ⟨w.heap.size, 0, none⟩ 0 23 = some l3 ∧
      Calls Try.prog F.farm_may #[.agg l3.toArray] w1 fun e5 w4 => ∃ b6 : Bool, e5 = .returned (.bool b6) ∧
      k2 (!b6) w4)
    )
  (
    fun (b7 : Bool) (w8 : World) => (b7 = true → Q (.int .i64 1) w8) ∧ (
      b7 = false → Nx (w8.drew) fun w9 => ∃ W10 : Nat → Prop, ∃ a11 : Addr, f = some a11 ∧
      ¬ W10 a11.block ∧ ∃ m12 : Option Nat, w9.cell? a11 = some (.map m12) ∧ ¬ W10 (⟨w.heap.size, 0, none⟩ : Addr).block ∧
      ∃ n13 : Int, w9.cell? ⟨w.heap.size, 0, none⟩ = some (.int .i64 n13) ∧ ∃ p14 : Option Addr, ∃ b15 : Bool, ∃ w16 : World, Sem.run Try.prog (Instr.lookup Ty.map_int_P_api_Service (.map m12) (.int .i64 n13) true) w9 = .ok (.tuple #[.pointer p14, .bool b15]) w16 ∧
      Nx (w16.drew) fun w17 => ∃ W18 : Nat → Prop, ∃ a19 : Addr, f = some a19 ∧
      ¬ W18 (a19.add 1).block ∧ ∃ m20 : Option Nat, w17.cell? (a19.add 1) = some (.map m20) ∧
      ¬ W18 (⟨w.heap.size, 0, none⟩ : Addr).block ∧ ∃ l21 : List Value, rdCells w17 ⟨w.heap.size, 0, none⟩ 0 23 = some l21 ∧
      Calls Try.prog F.farm_of #[.agg l21.toArray] w17 fun e23 w22 => ∃ c24 : Array Value, e23 = .returned (.agg c24) ∧
      Chg W18 w17 w22 ∧ ∃ n25 : Int, ∃ b26 : Bool, ∃ w27 : World, Sem.run Try.prog (Instr.lookup Ty.map_farm_door_int (.map m20) (.agg c24) true) w22 = .ok (.tuple #[.int .i64 n25, .bool b26]) w27 ∧
      Chg W18 w22 w27 ∧ ((b15 || b26) = true → Q (.int .i64 7) w27) ∧ (
        (b15 || b26) = false → ∃ a28 : Addr, f = some a28 ∧ ∃ m29 : Option Nat, w27.cell? a28 = some (.map m29) ∧
        ∃ n30 : Int, ∃ w31 : World, Sem.run Try.prog (Builtin.len_ #[Ty.map_int_P_api_Service] Ty.int #[.map m29]) w27 = .ok (.int .i64 n30) w31 ∧
        ((decide ((n30 : Int) ≥ 8)) = true → Q (.int .i64 2) w31) ∧ (
          (decide ((n30 : Int) ≥ 8)) = false → (∃ u : Value, w31.cell? (Addr.add ⟨w.heap.size, 0, none⟩ 22) = some u) ∧
          w31.frozen? (Addr.add ⟨w.heap.size, 0, none⟩ 22) = false ∧ Nx (w31.setCell (Addr.add ⟨w.heap.size, 0, none⟩ 22) (.slice none 0 0)) fun w32 =>
          Nx (w32.drew) fun w33 => ∃ W34 : Nat → Prop, ∃ a35 : Addr, f = some a35 ∧
          ¬ W34 a35.block ∧ ∃ m36 : Option Nat, w33.cell? a35 = some (.map m36) ∧ ¬ W34 (⟨w.heap.size, 0, none⟩ : Addr).block ∧
          ∃ n37 : Int, w33.cell? ⟨w.heap.size, 0, none⟩ = some (.int .i64 n37) ∧ ∃ a38 : Addr, f = some a38 ∧
          ¬ W34 (a38.add 1).block ∧ ∃ m39 : Option Nat, w33.cell? (a38.add 1) = some (.map m39) ∧
          ¬ W34 (⟨w.heap.size, 0, none⟩ : Addr).block ∧ ∃ l40 : List Value, rdCells w33 ⟨w.heap.size, 0, none⟩ 0 23 = some l40 ∧
          ¬ W34 (⟨w.heap.size, 0, none⟩ : Addr).block ∧ ∃ n41 : Int, w33.cell? ⟨w.heap.size, 0, none⟩ = some (.int .i64 n41) ∧
          Calls Try.prog F.farm_of #[.agg l40.toArray] w33 fun e43 w42 => ∃ c44 : Array Value, e43 = .returned (.agg c44) ∧
          Chg W34 w33 w42 ∧ ∃ (v46 : Value) (n47 : Int) (w45 : World), Sem.run Try.prog (Instr.mapEntry Ty.map_int_P_api_Service (.map m36) (.int .i64 n37)) w42 = .ok (.tuple #[v46, .int .i64 n47]) w45 ∧
          ∃ w48 : World, Sem.run Try.prog (
            Instr.entryStore Ty.map_int_P_api_Service (.map m36) (.int .i64 n47) (.pointer (some ⟨w.heap.size, 0, none⟩)))
          w45 = .ok () w48 ∧ ∃ (v50 : Value) (n51 : Int) (w49 : World), Sem.run Try.prog (Instr.mapEntry Ty.map_farm_door_int (.map m39) (.agg c44)) w48 = .ok (.tuple #[v50, .int .i64 n51]) w49 ∧
          ∃ w52 : World, Sem.run Try.prog (Instr.entryStore Ty.map_farm_door_int (.map m39) (.int .i64 n51) (.int .i64 n41)) w49 = .ok () w52 ∧
          Q (.int .i64 0) w52)
        )
      )
    )
def A.farm_Farm_AddService : AT := (.seq (.reg []) (.seq (.seq (.reg [.run, .run, .run, .split 3]) (.cond (.seq (.reg []) .leaf) .leaf)) (.seq (.drw 11 true ⟨[0, 1, 2, 4, 0, 16, 40, 64, 128, 128, 511, 2047], [0, 1, 2, 4, 0, 16, 40, 64, 128, 128, 256, 512]⟩ [131072, 262144, 524288, 1048576, 2097152, 4194304, 8388608, 65536, 16777216, 33554432, 32, 64] [1, 131072, 262144, 524288, 8, 2097152, 5242880, 8388608, 65536, 65536, 16777216, 33554432] (.take 0 (.take 1 (.take 2 (.take 3 (.take 4 (.take 5 (.out 6 false (.take 7 (.take 8 (.take 9 (.take 10 (.tail [.run]))))))))))))) (.seq (.drw 11 true ⟨[0, 1, 2, 4, 0, 16, 40, 64, 128, 128, 511, 2047], [0, 1, 2, 4, 0, 16, 40, 64, 128, 128, 256, 512]⟩ [134217728, 268435456, 536870912, 1073741824, 2147483648, 4294967296, 8589934592, 67108864, 17179869184, 34359738368, 128, 256] [1, 134217728, 268435456, 536870912, 8, 2147483648, 5368709120, 8589934592, 67108864, 67108864, 17179869184, 34359738368] (.take 0 (.take 1 (.take 2 (.take 3 (.take 4 (.eff 5 (.eff 6 (.take 7 (.take 8 (.take 9 (.take 10 (.tail [.run]))))))))))))) (.seq (.blk (.seq (.reg [.run, .run, .pure 1]) (.cond (.seq (.reg []) .leaf) (.seq (.reg []) (.cond (.seq (.reg []) .leaf) .leaf))))) (.seq (.reg []) (.seq (.drw 14 true ⟨[0, 1, 2, 4, 0, 16, 0, 64, 128, 256, 0, 1024, 0, 4096, 11816, 16384, 60991, 126527, 131072, 524287], [0, 1, 2, 4, 0, 16, 0, 64, 128, 256, 0, 1024, 0, 4096, 40, 16384, 32776, 2560, 131072, 270848]⟩ [562949953421312, 1125899906842624, 2251799813685248, 4503599627370496, 9007199254740992, 18014398509481984, 36028797018963968, 72057594037927936, 144115188075855872, 288230376151711744, 576460752303423488, 1152921504606846976, 2305843009213693952, 4611686018427387904, 9223372036854775808, 18446744073709551616, 0, 36893488147419103232, 73786976294838206464, 0] [1, 562949953421312, 1125899906842624, 2251799813685248, 8, 9007199254740992, 1, 36028797018963968, 72057594037927936, 144115188075855872, 8, 576460752303423488, 8, 2305843009213693952, 22517998136852480, 9223372036854775808, 18451247673336922120, 1441151880758558720, 36893488147419103232, 78686892689417306112] (.take 0 (.take 1 (.take 2 (.take 3 (.take 4 (.take 5 (.take 6 (.take 7 (.take 8 (.take 9 (.take 10 (.take 12 (.take 13 (.eff 11 (.tail [.run, .run, .run, .run, .run, .run])))))))))))))))) (.seq (.reg []) .leaf))))))))
theorem W.farm_Farm_AddService_eq (f : Option Addr) (s : Array Value) (w : World) (Q : Value → World → Prop) : W.farm_Farm_AddService f s w Q = DF Try.prog tk A.farm_Farm_AddService Try.f32 [.pointer f, .agg s] w Q := by kernel_rfl
theorem W.farm_Farm_AddService_ok (f : Option Addr) (s : Array Value) (w : World) (Q : Value → World → Prop) (h : W.farm_Farm_AddService f s w Q) : Calls Try.prog F.farm_Farm_AddService #[.pointer f, .agg s] w fun e w1 => ∃ v, e = .returned v ∧ Q v w1 :=
  calls_of_DF hmix Try.func32 (by kernel_rfl) (Eq.mp (W.farm_Farm_AddService_eq f s w Q) h)

/-- stanchion/conf.good -/
def W.conf_good (l : Sl) (w : World) (Q : Value → World → Prop) : Prop :=
  Calls Try.prog F.farm_New #[] w fun e2 w1 => ∃ p3 : Option Addr, e2 = .returned (.pointer p3) ∧
  ∃ (I4 : Sl → Int → World → Prop) (μ5 : Sl → Int → World → Nat), I4 ⟨none, 0, 0⟩ 0 w1 ∧
  ∀ (s6 : Sl) (n7 : Int) (w8 : World), I4 s6 n7 w8 → (
    (decide ((n7 : Int) < ((l.len : Nat) : Int))) = true → ∃ a9 : Addr, l.a = some a9 ∧
    ((0 : Int) ≤ n7 ∧ n7 < ((l.len : Nat) : Int)) ∧ ∃ l10 : List Value, rdCells w8 (a9.add (Int.toNat n7 * 23)) 0 23 = some l10 ∧
    Nx (
      w8.alloc (
        .cells #[.int .i64 0, .bool false, .int .u8 0, .int .u8 0, .int .u8 0, .int .u8 0, .int .u8 0, .int .u8 0, .int .u8 0, .int .u8 0, .int .u8 0, .int .u8 0, .int .u8 0, .int .u8 0, .int .u8 0, .int .u8 0, .int .u8 0, .int .u8 0, .int .u16 0, .int .u8 0, .int .i64 0, .int .u64 0, .slice none 0 0] Ty.api_Service)
      )
    fun w11 => StoreOk w11 ⟨w8.heap.size, 0, none⟩ (Array.toList l10.toArray) ∧
    Array.size l10.toArray = 23 ∧ Nx (setCells w11 ⟨w8.heap.size, 0, none⟩ 0 (Array.toList l10.toArray)) fun w12 =>
    ∃ n13 : Int, w12.cell? ⟨w8.heap.size, 0, none⟩ = some (.int .i64 n13) ∧ Nx (w12.alloc (.cells #[.int .i64 n13] Ty.int)) fun w14 =>
    ∃ s15 : Sl, ∃ w16 : World, Sem.run Try.prog (
      Builtin.append_ #[Ty.Sl_int, Ty.Sl_int] Ty.Sl_int #[.slice s6.a s6.len s6.cap, .slice (some ⟨w12.heap.size, 0, none⟩) 1 1])
    w14 = .ok (.slice s15.a s15.len s15.cap) w16 ∧ ∃ l17 : List Value, rdCells w16 ⟨w8.heap.size, 0, none⟩ 0 23 = some l17 ∧
    Calls Try.prog F.conf_lays #[.pointer p3, .agg l17.toArray] w16 fun e19 w18 =>
    ∃ b20 : Bool, e19 = .returned (.bool b20) ∧ ((!b20) = true → Q (.bool false) w18) ∧
    (
      (!b20) = false → I4 s15 (IntKind.wrap .i64 (n7 + 1)) w18 ∧ μ5 s15 (IntKind.wrap .i64 (n7 + 1)) w18 < μ5 s6 n7 w8)
    )
  ∧ (
    (decide ((n7 : Int) < ((l.len : Nat) : Int))) = false → Calls Try.prog F.conf_rises #[.slice s6.a s6.len s6.cap] w8 fun e22 w21 =>
    ∃ b23 : Bool, e22 = .returned (.bool b23) ∧ Q (.bool b23) w21)
def A.conf_good : AT := (.seq (.reg []) (.seq (.reg []) (.seq (.reg []) (.seq (.seq (.reg []) (.blk (.loop [(4, .slice), (10, (.int .i64))] [3, 8, 9] (.seq (.reg []) (.seq (.cond .leaf .leaf) (.seq (.blk (.seq (.reg []) (.seq (.reg []) (.seq (.reg []) (.cond (.seq (.reg []) .leaf) .leaf))))) (.reg []))))))) (.seq (.reg []) .leaf)))))
theorem W.conf_good_eq (l : Sl) (w : World) (Q : Value → World → Prop) : W.conf_good l w Q = DF Try.prog tk A.conf_good Try.f34 [.slice l.a l.len l.cap] w Q := by kernel_rfl
theorem W.conf_good_ok (l : Sl) (w : World) (Q : Value → World → Prop) (h : W.conf_good l w Q) : Calls Try.prog F.conf_good #[.slice l.a l.len l.cap] w fun e w1 => ∃ v, e = .returned v ∧ Q v w1 :=
  calls_of_DF hmix Try.func34 (by kernel_rfl) (Eq.mp (W.conf_good_eq l w Q) h)

/-- stanchion/conf.of -/
def W.conf_of (l : Sl) (s : Array Value) (w : World) (Q : Value → World → Prop) : Prop :=
  Nx (w.alloc (.cells s Ty.api_Service)) fun w1 => Nx (
    w1.alloc (
      .cells #[.int .i64 0, .bool false, .int .u8 0, .int .u8 0, .int .u8 0, .int .u8 0, .int .u8 0, .int .u8 0, .int .u8 0, .int .u8 0, .int .u8 0, .int .u8 0, .int .u8 0, .int .u8 0, .int .u8 0, .int .u8 0, .int .u8 0, .int .u8 0, .int .u16 0, .int .u8 0, .int .i64 0, .int .u64 0, .slice none 0 0] Ty.api_Service)
    )
  fun w2 => Calls Try.prog F.slices_IndexFunc_Sl_api_Service_api_Service #[.slice l.a l.len l.cap, .func (.func F.conf_of_1) #[] #[.pointer (some ⟨w.heap.size, 0, none⟩)]] w2 fun e4 w3 =>
  ∃ n5 : Int, e4 = .returned (.int .i64 n5) ∧ (
    (decide ((n5 : Int) < 0)) = true → ∃ c6 : Array Value, Sem.run Try.prog (Instr.build Ty.api_Service #[]) w3 = .ok (.agg c6) w3 ∧
    StoreOk w3 ⟨w1.heap.size, 0, none⟩ (Array.toList c6) ∧ Array.size c6 = 23 ∧
    Nx (setCells w3 ⟨w1.heap.size, 0, none⟩ 0 (Array.toList c6)) fun w7 => ∃ l8 : List Value, rdCells w7 ⟨w1.heap.size, 0, none⟩ 0 23 = some l8 ∧
    Q (.tuple #[.agg l8.toArray, .bool false]) w7)
  ∧ (
    (decide ((n5 : Int) < 0)) = false → ∃ a9 : Addr, l.a = some a9 ∧ ((0 : Int) ≤ n5 ∧ n5 < ((l.len : Nat) : Int)) ∧
    ∃ l10 : List Value, rdCells w3 (a9.add (Int.toNat n5 * 23)) 0 23 = some l10 ∧
    StoreOk w3 ⟨w1.heap.size, 0, none⟩ (Array.toList l10.toArray) ∧ Array.size l10.toArray = 23 ∧
    Nx (setCells w3 ⟨w1.heap.size, 0, none⟩ 0 (Array.toList l10.toArray)) fun w11 =>
    ∃ l12 : List Value, rdCells w11 ⟨w1.heap.size, 0, none⟩ 0 23 = some l12 ∧
    Q (.tuple #[.agg l12.toArray, .bool true]) w11)
def A.conf_of : AT := (.seq (.reg []) (.seq (.reg []) (.seq (.seq (.reg []) (.cond (.seq (.reg []) .leaf) .leaf)) (.seq (.reg []) .leaf))))
theorem W.conf_of_eq (l : Sl) (s : Array Value) (w : World) (Q : Value → World → Prop) : W.conf_of l s w Q = DF Try.prog tk A.conf_of Try.f35 [.slice l.a l.len l.cap, .agg s] w Q := by kernel_rfl
theorem W.conf_of_ok (l : Sl) (s : Array Value) (w : World) (Q : Value → World → Prop) (h : W.conf_of l s w Q) : Calls Try.prog F.conf_of #[.slice l.a l.len l.cap, .agg s] w fun e w1 => ∃ v, e = .returned v ∧ Q v w1 :=
  calls_of_DF hmix Try.func35 (by kernel_rfl) (Eq.mp (W.conf_of_eq l s w Q) h)

/-- (*stanchion/conf.differ).put -/
def W.conf_differ_put (d : Option Addr) (op : Array Value) (w : World) (Q : Value → World → Prop) : Prop :=
  Nx (w.alloc (.cells op Ty.api_Op)) fun w1 => Nx (w1.drew) fun w2 => ∃ W3 : Nat →
  Prop, ∃ a4 : Addr, d = some a4 ∧ ¬ W3 a4.block ∧ ∃ s5 : Sl, w2.cell? a4 = some (.slice s5.a s5.len s5.cap) ∧
  ¬ W3 (⟨w.heap.size, 0, none⟩ : Addr).block ∧ ∃ l6 : List Value, rdCells w2 ⟨w.heap.size, 0, none⟩ 0 51 = some l6 ∧
  ∃ s7 : Sl, ∃ w8 : World, Sem.run Try.prog (Instr.buildSlice Ty.Sl_api_Op 1 #[(0, .agg l6.toArray)]) w2 = .ok (.slice s7.a s7.len s7.cap) w8 ∧
  Chg W3 w2 w8 ∧ ∃ s9 : Sl, ∃ w10 : World, Sem.run Try.prog (
    Builtin.append_ #[Ty.Sl_api_Op, Ty.Sl_api_Op] Ty.Sl_api_Op #[.slice s5.a s5.len s5.cap, .slice s7.a s7.len s7.cap])
  w8 = .ok (.slice s9.a s9.len s9.cap) w10 ∧ Chg W3 w8 w10 ∧ ∃ a11 : Addr, d = some a11 ∧
  (∃ u : Value, w10.cell? a11 = some u) ∧ w10.frozen? a11 = false ∧ Nx (w10.setCell a11 (.slice s9.a s9.len s9.cap)) fun w12 =>
  Q (.tuple #[]) w12
def A.conf_differ_put : AT := (.seq (.reg []) (.drw 8 true ⟨[0, 0, 2, 4, 8, 0, 32, 80, 255, 511, 767], [0, 0, 2, 4, 8, 0, 32, 80, 1, 256, 640]⟩ [16, 32, 64, 128, 256, 512, 1024, 2048, 4096, 8192, 0] [1, 1, 32, 64, 128, 8, 512, 1280, 16, 4096, 10240] (.take 0 (.take 1 (.take 2 (.take 3 (.take 4 (.take 5 (.eff 6 (.eff 7 (.tail [.run, .run, .run])))))))))))
theorem W.conf_differ_put_eq (d : Option Addr) (op : Array Value) (w : World) (Q : Value → World → Prop) : W.conf_differ_put d op w Q = DF Try.prog tk A.conf_differ_put Try.f36 [.pointer d, .agg op] w Q := by kernel_rfl
theorem W.conf_differ_put_ok (d : Option Addr) (op : Array Value) (w : World) (Q : Value → World → Prop) (h : W.conf_differ_put d op w Q) : Calls Try.prog F.conf_differ_put #[.pointer d, .agg op] w fun e w1 => ∃ v, e = .returned v ∧ Q v w1 :=
  calls_of_DF hmix Try.func36 (by kernel_rfl) (Eq.mp (W.conf_differ_put_eq d op w Q) h)

/-- (*stanchion/conf.differ).service -/
def W.conf_differ_service (d : Option Addr) (was : Array Value) (there : Bool) (s : Array Value) (w : World) (Q : Value → World → Prop) : Prop :=
  Nx (w.alloc (.cells was Ty.api_Service)) fun w1 => Nx (w1.alloc (.cells s Ty.api_Service)) fun w2 =>
  Jn (
    fun k3 : World → Prop => (
      (!there) = true → ∃ l4 : List Value, rdCells w2 ⟨w1.heap.size, 0, none⟩ 0 23 = some l4 ∧
      Calls Try.prog F.conf_bare #[.agg l4.toArray] w2 fun e6 w5 => ∃ c7 : Array Value, e6 = .returned (.agg c7) ∧
      ∃ c8 : Array Value, Sem.run Try.prog (Instr.build Ty.api_Op #[(0, .int .i64 3), (6, .agg c7)]) w5 = .ok (.agg c8) w5 ∧
      Calls Try.prog F.conf_differ_put #[.pointer d, .agg c8] w5 fun e10 w9 => e10 = .returned (.tuple #[]) ∧
      k3 w9)
    ∧ ((!there) = false → k3 w2))
  (
    fun  (w11 : World) => ∃ s12 : Sl, w11.cell? (Addr.add ⟨w.heap.size, 0, none⟩ 22) = some (.slice s12.a s12.len s12.cap) ∧
    ∃ (I13 : Int → World → Prop) (μ14 : Int → World → Nat), I13 0 w11 ∧ ∀ (n15 : Int) (w16 : World), I13 n15 w16 →
    (
      (decide ((n15 : Int) < ((s12.len : Nat) : Int))) = true → Jn (
        fun k17 : World → Prop => ∃ a18 : Addr, s12.a = some a18 ∧ ((0 : Int) ≤ n15 ∧ n15 < ((s12.len : Nat) : Int)) ∧
        ∃ l19 : List Value, rdCells w16 (a18.add (Int.toNat n15 * 21)) 0 21 = some l19 ∧
        Nx (
          w16.alloc (
            .cells #[.int .i64 0, .bool false, .int .u8 0, .int .u8 0, .int .u8 0, .int .u8 0, .int .u8 0, .int .u8 0, .int .u8 0, .int .u8 0, .int .u8 0, .int .u8 0, .int .u8 0, .int .u8 0, .int .u8 0, .int .u8 0, .int .u8 0, .int .u8 0, .int .u16 0, .int .i64 0, .bool false] Ty.api_Backend)
          )
        fun w20 => StoreOk w20 ⟨w16.heap.size, 0, none⟩ (Array.toList l19.toArray) ∧
        Array.size l19.toArray = 21 ∧ Nx (setCells w20 ⟨w16.heap.size, 0, none⟩ 0 (Array.toList l19.toArray)) fun w21 =>
        ∃ s22 : Sl, w21.cell? (Addr.add ⟨w1.heap.size, 0, none⟩ 22) = some (.slice s22.a s22.len s22.cap) ∧
        ∃ l23 : List Value, rdCells w21 ⟨w16.heap.size, 0, none⟩ 0 21 = some l23 ∧
        Calls Try.prog F.conf_at #[.slice s22.a s22.len s22.cap, .agg l23.toArray] w21 fun e25 w24 =>
        ∃ c26 : Array Value, ∃ b27 : Bool, e25 = .returned (.tuple #[.agg c26, .bool b27]) ∧
        Nx (
          w24.alloc (
            .cells #[.int .i64 0, .bool false, .int .u8 0, .int .u8 0, .int .u8 0, .int .u8 0, .int .u8 0, .int .u8 0, .int .u8 0, .int .u8 0, .int .u8 0, .int .u8 0, .int .u8 0, .int .u8 0, .int .u8 0, .int .u8 0, .int .u8 0, .int .u8 0, .int .u16 0, .int .i64 0, .bool false] Ty.api_Backend)
          )
        fun w28 => StoreOk w28 ⟨w24.heap.size, 0, none⟩ (Array.toList c26) ∧ Array.size c26 = 21 ∧
        Nx (setCells w28 ⟨w24.heap.size, 0, none⟩ 0 (Array.toList c26)) fun w29 =>
        (
          (!b27) = true → ∃ n30 : Int, w29.cell? ⟨w1.heap.size, 0, none⟩ = some (.int .i64 n30) ∧
          ∃ n31 : Int, w29.cell? ⟨w16.heap.size, 0, none⟩ = some (.int .i64 n31) ∧ ∃ c32 : Array Value, Sem.run Try.prog (Instr.build Ty.api_Op #[(0, .int .i64 6), (2, .int .i64 n30), (3, .int .i64 n31)]) w29 = .ok (.agg c32) w29 ∧
          Calls Try.prog F.conf_differ_put #[.pointer d, .agg c32] w29 fun e34 w33 =>
          e34 = .returned (.tuple #[]) ∧ k17 w33)
        ∧ ((!b27) = false → k17 w29))
      (
        fun  (w35 : World) => I13 (IntKind.wrap .i64 (n15 + 1)) w35 ∧ μ14 (IntKind.wrap .i64 (n15 + 1)) w35 < μ14 n15 w16)
      )
    ∧ (
      (decide ((n15 : Int) < ((s12.len : Nat) : Int))) = false → ∃ s36 : Sl, w16.cell? (Addr.add ⟨w1.heap.size, 0, none⟩ 22) = some (.slice s36.a s36.len s36.cap) ∧
      ∃ (I37 : Int → World → Prop) (μ38 : Int → World → Nat), I37 0 w16 ∧ ∀ (n39 : Int) (w40 : World), I37 n39 w40 →
      (
        (decide ((n39 : Int) < ((s36.len : Nat) : Int))) = true → ∃ a41 : Addr, s36.a = some a41 ∧
        ((0 : Int) ≤ n39 ∧ n39 < ((s36.len : Nat) : Int)) ∧ ∃ l42 : List Value, rdCells w40 (a41.add (Int.toNat n39 * 21)) 0 21 = some l42 ∧
        Nx (
          w40.alloc (
            .cells #[.int .i64 0, .bool false, .int .u8 0, .int .u8 0, .int .u8 0, .int .u8 0, .int .u8 0, .int .u8 0, .int .u8 0, .int .u8 0, .int .u8 0, .int .u8 0, .int .u8 0, .int .u8 0, .int .u8 0, .int .u8 0, .int .u8 0, .int .u8 0, .int .u16 0, .int .i64 0, .bool false] Ty.api_Backend)
          )
        fun w43 => StoreOk w43 ⟨w40.heap.size, 0, none⟩ (Array.toList l42.toArray) ∧
        Array.size l42.toArray = 21 ∧ Nx (setCells w43 ⟨w40.heap.size, 0, none⟩ 0 (Array.toList l42.toArray)) fun w44 =>
        ∃ l45 : List Value, rdCells w44 ⟨w.heap.size, 0, none⟩ 0 23 = some l45 ∧ ∃ n46 : Int, w44.cell? ⟨w1.heap.size, 0, none⟩ = some (.int .i64 n46) ∧
        ∃ l47 : List Value, rdCells w44 ⟨w40.heap.size, 0, none⟩ 0 21 = some l47 ∧
        Calls Try.prog F.conf_differ_backend #[.pointer d, .agg l45.toArray, .int .i64 n46, .agg l47.toArray] w44 fun e49 w48 =>
        e49 = .returned (.tuple #[]) ∧ I37 (IntKind.wrap .i64 (n39 + 1)) w48 ∧ μ38 (IntKind.wrap .i64 (n39 + 1)) w48 < μ38 n39 w40)
      ∧ ((decide ((n39 : Int) < ((s36.len : Nat) : Int))) = false → Q (.tuple #[]) w40))
    )
def A.conf_differ_service : AT := (.seq (.reg []) (.seq (.jk [] [0, 5, 7] (.seq (.reg []) (.cond (.reg []) .leaf))) (.seq (.seq (.reg []) (.blk (.loop [(24, (.int .i64))] [0, 5, 7, 22, 23] (.seq (.reg []) (.seq (.cond .leaf .leaf) (.seq (.jk [] [0, 5, 7, 22, 23, 24] (.blk (.seq (.reg []) (.seq (.reg []) (.seq (.reg []) (.cond (.reg []) .leaf)))))) (.reg []))))))) (.seq (.reg []) (.blk (.loop [(48, (.int .i64))] [0, 5, 7, 46, 47] (.seq (.reg []) (.seq (.cond .leaf .leaf) (.seq (.blk (.seq (.reg []) (.reg []))) (.reg []))))))))))
theorem W.conf_differ_service_eq (d : Option Addr) (was : Array Value) (there : Bool) (s : Array Value) (w : World) (Q : Value → World → Prop) : W.conf_differ_service d was there s w Q = DF Try.prog tk A.conf_differ_service Try.f37 [.pointer d, .agg was, .bool there, .agg s] w Q := by kernel_rfl
theorem W.conf_differ_service_ok (d : Option Addr) (was : Array Value) (there : Bool) (s : Array Value) (w : World) (Q : Value → World → Prop) (h : W.conf_differ_service d was there s w Q) : Calls Try.prog F.conf_differ_service #[.pointer d, .agg was, .bool there, .agg s] w fun e w1 => ∃ v, e = .returned v ∧ Q v w1 :=
  calls_of_DF hmix Try.func37 (by kernel_rfl) (Eq.mp (W.conf_differ_service_eq d was there s w Q) h)

/-- stanchion/farm.of -/
def W.farm_of (s : Array Value) (w : World) (Q : Value → World → Prop) : Prop :=
  Nx (w.alloc (.cells s Ty.api_Service)) fun w1 => Nx (
    w1.alloc (
      .cells #[.bool false, .int .u8 0, .int .u8 0, .int .u8 0, .int .u8 0, .int .u8 0, .int .u8 0, .int .u8 0, .int .u8 0, .int .u8 0, .int .u8 0, .int .u8 0, .int .u8 0, .int .u8 0, .int .u8 0, .int .u8 0, .int .u8 0, .int .u16 0, .int .u8 0] Ty.farm_door)
    )
  fun w2 => ∃ l3 : List Value, rdCells w2 (Addr.add ⟨w.heap.size, 0, none⟩ 1) 0 17 = some l3 ∧
  ∃ n4 : Int, w2.cell? (Addr.add ⟨w.heap.size, 0, none⟩ 18) = some (.int .u16 n4) ∧
  ∃ n5 : Int, w2.cell? (Addr.add ⟨w.heap.size, 0, none⟩ 19) = some (.int .u8 n5) ∧
  ∃ c6 : Array Value, Sem.run Try.prog (Instr.build Ty.farm_door #[(0, .agg l3.toArray), (1, .int .u16 n4), (2, .int .u8 n5)]) w2 = .ok (.agg c6) w2 ∧
  StoreOk w2 ⟨w1.heap.size, 0, none⟩ (Array.toList c6) ∧ Array.size c6 = 19 ∧
  Nx (setCells w2 ⟨w1.heap.size, 0, none⟩ 0 (Array.toList c6)) fun w7 => ∃ l8 : List Value, rdCells w7 ⟨w1.heap.size, 0, none⟩ 0 19 = some l8 ∧
  Q (.agg l8.toArray) w7
def A.farm_of : AT := (.seq (.reg []) (.seq (.reg []) .leaf))
theorem W.farm_of_eq (s : Array Value) (w : World) (Q : Value → World → Prop) : W.farm_of s w Q = DF Try.prog tk A.farm_of Try.f41 [.agg s] w Q := by kernel_rfl
theorem W.farm_of_ok (s : Array Value) (w : World) (Q : Value → World → Prop) (h : W.farm_of s w Q) : Calls Try.prog F.farm_of #[.agg s] w fun e w1 => ∃ v, e = .returned v ∧ Q v w1 :=
  calls_of_DF hmix Try.func41 (by kernel_rfl) (Eq.mp (W.farm_of_eq s w Q) h)

/-- stanchion/farm.at -/
def W.farm_at (s : Option Addr) (id : Int) (w : World) (Q : Value → World → Prop) : Prop :=
  ∃ a1 : Addr, s = some a1 ∧ ∃ s2 : Sl, w.cell? (a1.add 22) = some (.slice s2.a s2.len s2.cap) ∧
  Calls Try.prog F.slices_BinarySearchFunc_Sl_api_Backend_api_Backend_int #[.slice s2.a s2.len s2.cap, .int .i64 id, .func (.func F.farm_at_1) #[] #[]] w fun e4 w3 =>
  ∃ n5 : Int, ∃ b6 : Bool, e4 = .returned (.tuple #[.int .i64 n5, .bool b6]) ∧
  Q (.tuple #[.int .i64 n5, .bool b6]) w3
def A.farm_at : AT := (.seq (.reg []) (.seq (.reg []) .leaf))
theorem W.farm_at_eq (s : Option Addr) (id : Int) (w : World) (Q : Value → World → Prop) : W.farm_at s id w Q = DF Try.prog tk A.farm_at Try.f42 [.pointer s, .int .i64 id] w Q := by kernel_rfl
theorem W.farm_at_ok (s : Option Addr) (id : Int) (w : World) (Q : Value → World → Prop) (h : W.farm_at s id w Q) : Calls Try.prog F.farm_at #[.pointer s, .int .i64 id] w fun e w1 => ∃ v, e = .returned v ∧ Q v w1 :=
  calls_of_DF hmix Try.func42 (by kernel_rfl) (Eq.mp (W.farm_at_eq s id w Q) h)

/-- stanchion/farm.id -/
def W.farm_id (n : Int) (w : World) (Q : Value → World → Prop) : Prop :=
  Q (.bool ((decide ((n : Int) ≥ 0)) && (decide ((n : Int) ≤ 65535)))) w
def A.farm_id : AT := (.seq (.reg []) (.seq (.reg [.run, .run, .run, .pure 2]) .leaf))
theorem W.farm_id_eq (n : Int) (w : World) (Q : Value → World → Prop) : W.farm_id n w Q = DF Try.prog tk A.farm_id Try.f43 [.int .i64 n] w Q := by kernel_rfl
theorem W.farm_id_ok (n : Int) (w : World) (Q : Value → World → Prop) (h : W.farm_id n w Q) : Calls Try.prog F.farm_id #[.int .i64 n] w fun e w1 => ∃ v, e = .returned v ∧ Q v w1 :=
  calls_of_DF hmix Try.func43 (by kernel_rfl) (Eq.mp (W.farm_id_eq n w Q) h)

/-- stanchion/addr.Good -/
def W.addr_Good (a : Array Value) (w : World) (Q : Value → World → Prop) : Prop :=
  Nx (w.alloc (.cells a Ty.api_Addr)) fun w1 => ∃ l2 : List Value, rdCells w1 ⟨w.heap.size, 0, none⟩ 0 17 = some l2 ∧
  Calls Try.prog F.addr_good #[.agg l2.toArray] w1 fun e4 w3 => ∃ b5 : Bool, e4 = .returned (.bool b5) ∧
  Q (.bool b5) w3
def A.addr_Good : AT := (.seq (.reg []) (.seq (.reg []) .leaf))
theorem W.addr_Good_eq (a : Array Value) (w : World) (Q : Value → World → Prop) : W.addr_Good a w Q = DF Try.prog tk A.addr_Good Try.f44 [.agg a] w Q := by kernel_rfl
theorem W.addr_Good_ok (a : Array Value) (w : World) (Q : Value → World → Prop) (h : W.addr_Good a w Q) : Calls Try.prog F.addr_Good #[.agg a] w fun e w1 => ∃ v, e = .returned v ∧ Q v w1 :=
  calls_of_DF hmix Try.func44 (by kernel_rfl) (Eq.mp (W.addr_Good_eq a w Q) h)

/-- stanchion/farm.weight -/
def W.farm_weight (n : Int) (w : World) (Q : Value → World → Prop) : Prop :=
  Q (.bool ((decide ((n : Int) ≥ 0)) && (decide ((n : Int) ≤ 10)))) w
def A.farm_weight : AT := (.seq (.reg []) (.seq (.reg [.run, .run, .run, .pure 2]) .leaf))
theorem W.farm_weight_eq (n : Int) (w : World) (Q : Value → World → Prop) : W.farm_weight n w Q = DF Try.prog tk A.farm_weight Try.f45 [.int .i64 n] w Q := by kernel_rfl
theorem W.farm_weight_ok (n : Int) (w : World) (Q : Value → World → Prop) (h : W.farm_weight n w Q) : Calls Try.prog F.farm_weight #[.int .i64 n] w fun e w1 => ∃ v, e = .returned v ∧ Q v w1 :=
  calls_of_DF hmix Try.func45 (by kernel_rfl) (Eq.mp (W.farm_weight_eq n w Q) h)

/-- (*stanchion/farm.Farm).find -/
def W.farm_Farm_find (f : Option Addr) (sid : Int) (backend : Int) (w : World) (Q : Value → World → Prop) : Prop :=
  ((Option.isNone f) = true → Q (.tuple #[.pointer none, .int .i64 0, .int .i64 1]) w) ∧
  (
    (Option.isNone f) = false → ∃ a1 : Addr, f = some a1 ∧ ∃ m2 : Option Nat, w.cell? a1 = some (.map m2) ∧
    ∃ p3 : Option Addr, ∃ b4 : Bool, ∃ w5 : World, Sem.run Try.prog (Instr.lookup Ty.map_int_P_api_Service (.map m2) (.int .i64 sid) true) w = .ok (.tuple #[.pointer p3, .bool b4]) w5 ∧
    ((!b4) = true → Q (.tuple #[.pointer none, .int .i64 0, .int .i64 6]) w5) ∧
    (
      (!b4) = false → Calls Try.prog F.farm_at #[.pointer p3, .int .i64 backend] w5 fun e7 w6 =>
      ∃ n8 : Int, ∃ b9 : Bool, e7 = .returned (.tuple #[.int .i64 n8, .bool b9]) ∧
      ((!b9) = true → Q (.tuple #[.pointer none, .int .i64 0, .int .i64 6]) w6) ∧
      ((!b9) = false → Q (.tuple #[.pointer p3, .int .i64 n8, .int .i64 0]) w6))
    )
def A.farm_Farm_find : AT := (.seq (.reg []) (.seq (.seq (.reg []) (.cond (.seq (.reg []) .leaf) .leaf)) (.seq (.reg []) (.seq (.seq (.reg []) (.cond (.seq (.reg []) .leaf) .leaf)) (.seq (.reg []) (.seq (.seq (.reg []) (.cond (.seq (.reg []) .leaf) .leaf)) (.seq (.reg []) .leaf)))))))
theorem W.farm_Farm_find_eq (f : Option Addr) (sid : Int) (backend : Int) (w : World) (Q : Value → World → Prop) : W.farm_Farm_find f sid backend w Q = DF Try.prog tk A.farm_Farm_find Try.f48 [.pointer f, .int .i64 sid, .int .i64 backend] w Q := by kernel_rfl
theorem W.farm_Farm_find_ok (f : Option Addr) (sid : Int) (backend : Int) (w : World) (Q : Value → World → Prop) (h : W.farm_Farm_find f sid backend w Q) : Calls Try.prog F.farm_Farm_find #[.pointer f, .int .i64 sid, .int .i64 backend] w fun e w1 => ∃ v, e = .returned v ∧ Q v w1 :=
  calls_of_DF hmix Try.func48 (by kernel_rfl) (Eq.mp (W.farm_Farm_find_eq f sid backend w Q) h)

/-- stanchion/farm.may -/
def W.farm_may (s : Array Value) (w : World) (Q : Value → World → Prop) : Prop :=
  Nx (w.alloc (.cells s Ty.api_Service)) fun w1 => Jn (
    fun k2 : Int → World → Prop => ∃ b3 : Bool, w1.cell? (Addr.add ⟨w.heap.size, 0, none⟩ 1) = some (.bool b3) ∧
    (b3 = true → k2 128 w1) ∧ (b3 = false → k2 32 w1))
  (
    fun (n4 : Int) (w5 : World) => ∃ n6 : Int, w5.cell? (Addr.add ⟨w.heap.size, 0, none⟩ 19) = some (.int .u8 n6) ∧
    Jn (
      fun k7 : Bool → World → Prop => (((n6 : Int) == 6) = true → k7 true w5) ∧
      (
        ((n6 : Int) == 6) = false → ∃ n8 : Int, w5.cell? (Addr.add ⟨w.heap.size, 0, none⟩ 19) = some (.int .u8 n8) ∧
        k7 ((n8 : Int) == 17) w5)
      )
    (
      fun (b9 : Bool) (w10 : World) => ∃ n11 : Int, w10.cell? ⟨w.heap.size, 0, none⟩ = some (.int .i64 n11) ∧
      Calls Try.prog F.farm_id #[.int .i64 n11] w10 fun e13 w12 => ∃ b14 : Bool, e13 = .returned (.bool b14) ∧
      Jn (
        fun k15 : Bool → World → Prop => (
          b14 = true → ∃ l16 : List Value, rdCells w12 (Addr.add ⟨w.heap.size, 0, none⟩ 1) 0 17 = some l16 ∧
          Calls Try.prog F.addr_Good #[.agg l16.toArray] w12 fun e18 w17 => ∃ b19 : Bool, e18 = .returned (.bool b19) ∧
          k15 b19 w17)
        ∧ (b14 = false → k15 false w12))
      (
        fun (b20 : Bool) (w21 : World) => Jn (
          fun k22 : Bool → World → Prop => (
            b20 = true → ∃ n23 : Int, w21.cell? (Addr.add ⟨w.heap.size, 0, none⟩ 18) = some (.int .u16 n23) ∧
            k22 (decide ((n23 : Int) > 0)) w21)
          ∧ (b20 = false → k22 false w21))
        (
          fun (b24 : Bool) (w25 : World) => Jn (
            fun k26 : Bool → World → Prop => (
              (b24 && b9) = true → ∃ n27 : Int, w25.cell? (Addr.add ⟨w.heap.size, 0, none⟩ 20) = some (.int .i64 n27) ∧
              k26 (decide ((n27 : Int) ≥ 0)) w25)
            ∧ ((b24 && b9) = false → k26 false w25))
          (
            fun (b28 : Bool) (w29 : World) => Jn (
              fun k30 : Bool → World → Prop => (
                b28 = true → ∃ n31 : Int, w29.cell? (Addr.add ⟨w.heap.size, 0, none⟩ 20) = some (.int .i64 n31) ∧
                k30 (decide ((n31 : Int) ≤ n4)) w29)
              ∧ (b28 = false → k30 false w29))
            (
              fun (b32 : Bool) (w33 : World) => Jn (
                fun k34 : Bool → World → Prop => (
                  b32 = true → ∃ n35 : Int, w33.cell? (Addr.add ⟨w.heap.size, 0, none⟩ 21) = some (.int .u64 n35) ∧
                  k34 (decide ((n35 : Int) ≥ 1)) w33)
                ∧ (b32 = false → k34 false w33))
              (
                fun (b36 : Bool) (w37 : World) => Jn (
                  fun k38 : Bool → World → Prop => (
                    b36 = true → ∃ n39 : Int, w37.cell? (Addr.add ⟨w.heap.size, 0, none⟩ 21) = some (.int .u64 n39) ∧
                    k38 (decide ((n39 : Int) ≤ 1073741824)) w37)
                  ∧ (b36 = false → k38 false w37))
                (
                  fun (b40 : Bool) (w41 : World) => Jn (
                    fun k42 : Bool → World → Prop => (
                      b40 = true → ∃ s43 : Sl, w41.cell? (Addr.add ⟨w.heap.size, 0, none⟩ 22) = some (.slice s43.a s43.len s43.cap) ∧
                      k42 ((((s43.len : Nat) : Int) : Int) == 0) w41)
                    ∧ (b40 = false → k42 false w41))
                  (fun (b44 : Bool) (w45 : World) => Q (.bool b44) w45))
                )
              )
            )
          )
        )
      )
    )
def A.farm_may : AT := (.seq (.reg []) (.seq (.reg []) (.seq (.jk [(3, (.int .i64))] [1] (.seq (.reg []) (.cond (.reg []) .leaf))) (.seq (.reg [.run, .run, .run, .run, .split 3]) (.seq (.reg [.run, .run, .run, .run, .split 3, .run, .run, .run, .run, .split 3, .run, .run, .run, .run, .pure 1, .run, .run, .split 3, .run, .run, .run, .run, .split 4, .run, .run, .run, .run, .run, .split 3, .run, .run, .run, .run, .split 3, .run, .run, .run, .run, .split 4]) .leaf)))))
theorem W.farm_may_eq (s : Array Value) (w : World) (Q : Value → World → Prop) : W.farm_may s w Q = DF Try.prog tk A.farm_may Try.f50 [.agg s] w Q := by kernel_rfl
theorem W.farm_may_ok (s : Array Value) (w : World) (Q : Value → World → Prop) (h : W.farm_may s w Q) : Calls Try.prog F.farm_may #[.agg s] w fun e w1 => ∃ v, e = .returned v ∧ Q v w1 :=
  calls_of_DF hmix Try.func50 (by kernel_rfl) (Eq.mp (W.farm_may_eq s w Q) h)

/-- stanchion/conf.lays -/
def W.conf_lays (f : Option Addr) (s : Array Value) (w : World) (Q : Value → World → Prop) : Prop :=
  Nx (w.alloc (.cells s Ty.api_Service)) fun w1 => ∃ l2 : List Value, rdCells w1 ⟨w.heap.size, 0, none⟩ 0 23 = some l2 ∧
  Calls Try.prog F.conf_bare #[.agg l2.toArray] w1 fun e4 w3 => ∃ c5 : Array Value, e4 = .returned (.agg c5) ∧
  Calls Try.prog F.farm_Farm_AddService #[.pointer f, .agg c5] w3 fun e7 w6 =>
  ∃ n8 : Int, e7 = .returned (.int .i64 n8) ∧ (((n8 : Int) != 0) = true → Q (.bool false) w6) ∧
  (
    ((n8 : Int) != 0) = false → ∃ s9 : Sl, w6.cell? (Addr.add ⟨w.heap.size, 0, none⟩ 22) = some (.slice s9.a s9.len s9.cap) ∧
    ∃ (I10 : Sl → Int → World → Prop) (μ11 : Sl → Int → World → Nat), I10 ⟨none, 0, 0⟩ 0 w6 ∧
    ∀ (s12 : Sl) (n13 : Int) (w14 : World), I10 s12 n13 w14 → (
      (decide ((n13 : Int) < ((s9.len : Nat) : Int))) = true → ∃ a15 : Addr, s9.a = some a15 ∧
      ((0 : Int) ≤ n13 ∧ n13 < ((s9.len : Nat) : Int)) ∧ ∃ l16 : List Value, rdCells w14 (a15.add (Int.toNat n13 * 21)) 0 21 = some l16 ∧
      Nx (
        w14.alloc (
          .cells #[.int .i64 0, .bool false, .int .u8 0, .int .u8 0, .int .u8 0, .int .u8 0, .int .u8 0, .int .u8 0, .int .u8 0, .int .u8 0, .int .u8 0, .int .u8 0, .int .u8 0, .int .u8 0, .int .u8 0, .int .u8 0, .int .u8 0, .int .u8 0, .int .u16 0, .int .i64 0, .bool false] Ty.api_Backend)
        )
      fun w17 => StoreOk w17 ⟨w14.heap.size, 0, none⟩ (Array.toList l16.toArray) ∧
      Array.size l16.toArray = 21 ∧ Nx (setCells w17 ⟨w14.heap.size, 0, none⟩ 0 (Array.toList l16.toArray)) fun w18 =>
      ∃ n19 : Int, w18.cell? ⟨w14.heap.size, 0, none⟩ = some (.int .i64 n19) ∧ Nx (w18.alloc (.cells #[.int .i64 n19] Ty.int)) fun w20 =>
      ∃ s21 : Sl, ∃ w22 : World, Sem.run Try.prog (
        Builtin.append_ #[Ty.Sl_int, Ty.Sl_int] Ty.Sl_int #[.slice s12.a s12.len s12.cap, .slice (some ⟨w18.heap.size, 0, none⟩) 1 1])
      w20 = .ok (.slice s21.a s21.len s21.cap) w22 ∧ (∃ u : Value, w22.cell? (Addr.add ⟨w14.heap.size, 0, none⟩ 20) = some u) ∧
      w22.frozen? (Addr.add ⟨w14.heap.size, 0, none⟩ 20) = false ∧ Nx (w22.setCell (Addr.add ⟨w14.heap.size, 0, none⟩ 20) (.bool false)) fun w23 =>
      ∃ n24 : Int, w23.cell? ⟨w.heap.size, 0, none⟩ = some (.int .i64 n24) ∧ ∃ l25 : List Value, rdCells w23 ⟨w14.heap.size, 0, none⟩ 0 21 = some l25 ∧
      Calls Try.prog F.farm_Farm_AddBackend #[.pointer f, .int .i64 n24, .agg l25.toArray] w23 fun e27 w26 =>
      ∃ n28 : Int, e27 = .returned (.int .i64 n28) ∧ (((n28 : Int) != 0) = true → Q (.bool false) w26) ∧
      (
        ((n28 : Int) != 0) = false → I10 s21 (IntKind.wrap .i64 (n13 + 1)) w26 ∧ μ11 s21 (IntKind.wrap .i64 (n13 + 1)) w26 < μ11 s12 n13 w14)
      )
    ∧ (
      (decide ((n13 : Int) < ((s9.len : Nat) : Int))) = false → Calls Try.prog F.conf_rises #[.slice s12.a s12.len s12.cap] w14 fun e30 w29 =>
      ∃ b31 : Bool, e30 = .returned (.bool b31) ∧ Q (.bool b31) w29)
    )
def A.conf_lays : AT := (.seq (.reg []) (.seq (.seq (.reg []) (.cond (.seq (.reg []) .leaf) .leaf)) (.seq (.reg []) (.seq (.seq (.reg []) (.blk (.loop [(5, .slice), (16, (.int .i64))] [0, 3, 14, 15] (.seq (.reg []) (.seq (.cond .leaf .leaf) (.seq (.blk (.seq (.reg []) (.seq (.reg []) (.seq (.reg []) (.seq (.reg []) (.cond (.seq (.reg []) .leaf) .leaf)))))) (.reg []))))))) (.seq (.reg []) .leaf)))))
theorem W.conf_lays_eq (f : Option Addr) (s : Array Value) (w : World) (Q : Value → World → Prop) : W.conf_lays f s w Q = DF Try.prog tk A.conf_lays Try.f52 [.pointer f, .agg s] w Q := by kernel_rfl
theorem W.conf_lays_ok (f : Option Addr) (s : Array Value) (w : World) (Q : Value → World → Prop) (h : W.conf_lays f s w Q) : Calls Try.prog F.conf_lays #[.pointer f, .agg s] w fun e w1 => ∃ v, e = .returned v ∧ Q v w1 :=
  calls_of_DF hmix Try.func52 (by kernel_rfl) (Eq.mp (W.conf_lays_eq f s w Q) h)

/-- stanchion/conf.rises -/
def W.conf_rises (l : Sl) (w : World) (Q : Value → World → Prop) : Prop :=
  ∃ (I1 : Int → World → Prop) (μ2 : Int → World → Nat), I1 1 w ∧ ∀ (n3 : Int) (w4 : World), I1 n3 w4 →
  (
    (decide ((n3 : Int) < ((l.len : Nat) : Int))) = true → Nx (w4.drew) fun w5 =>
    ∃ a6 : Addr, l.a = some a6 ∧ ((0 : Int) ≤ (IntKind.wrap .i64 (n3 - 1)) ∧ (IntKind.wrap .i64 (n3 - 1)) < ((l.len : Nat) : Int)) ∧
    ¬ False ∧ ∃ n7 : Int, w5.cell? (a6.add (Int.toNat (IntKind.wrap .i64 (n3 - 1)) * 1)) = some (.int .i64 n7) ∧
    ∃ a8 : Addr, l.a = some a8 ∧ ((0 : Int) ≤ n3 ∧ n3 < ((l.len : Nat) : Int)) ∧
    ¬ False ∧ ∃ n9 : Int, w5.cell? (a8.add (Int.toNat n3 * 1)) = some (.int .i64 n9) ∧
    ((decide ((n7 : Int) ≥ n9)) = true → Q (.bool false) w5) ∧ (
      (decide ((n7 : Int) ≥ n9)) = false → I1 (IntKind.wrap .i64 (n3 + 1)) w5 ∧
      μ2 (IntKind.wrap .i64 (n3 + 1)) w5 < μ2 n3 w4)
    )
  ∧ ((decide ((n3 : Int) < ((l.len : Nat) : Int))) = false → Q (.bool true) w4)
def A.conf_rises : AT := (.seq (.reg []) (.seq (.seq (.reg []) (.blk (.loop [(3, (.int .i64))] [0] (.seq (.seq (.reg []) (.cond .leaf .leaf)) (.seq (.blk (.seq (.drw 9 false ⟨[0, 0, 2, 5, 8, 0, 0, 96, 128, 272], [0, 0, 2, 5, 8, 0, 0, 96, 128, 272]⟩ [1024, 2048, 4096, 8192, 16384, 32768, 65536, 131072, 262144, 524288] [1, 8, 2048, 5120, 8192, 1, 8, 98304, 131072, 278528] (.take 0 (.take 1 (.take 2 (.take 3 (.take 4 (.take 5 (.take 6 (.take 7 (.take 8 (.tail [.run]))))))))))) (.cond (.seq (.reg []) .leaf) .leaf))) (.reg [])))))) (.seq (.reg []) .leaf)))
theorem W.conf_rises_eq (l : Sl) (w : World) (Q : Value → World → Prop) : W.conf_rises l w Q = DF Try.prog tk A.conf_rises Try.f53 [.slice l.a l.len l.cap] w Q := by kernel_rfl
theorem W.conf_rises_ok (l : Sl) (w : World) (Q : Value → World → Prop) (h : W.conf_rises l w Q) : Calls Try.prog F.conf_rises #[.slice l.a l.len l.cap] w fun e w1 => ∃ v, e = .returned v ∧ Q v w1 :=
  calls_of_DF hmix Try.func53 (by kernel_rfl) (Eq.mp (W.conf_rises_eq l w Q) h)

/-- stanchion/conf.of$1 -/
def W.conf_of_1 (t : Array Value) (x : Addr) (w : World) (Q : Value → World → Prop) : Prop :=
  Nx (w.alloc (.cells t Ty.api_Service)) fun w1 => ∃ l2 : List Value, rdCells w1 x 0 23 = some l2 ∧
  ∃ l3 : List Value, rdCells w1 ⟨w.heap.size, 0, none⟩ 0 23 = some l3 ∧ Calls Try.prog F.conf_alike #[.agg l2.toArray, .agg l3.toArray] w1 fun e5 w4 =>
  ∃ b6 : Bool, e5 = .returned (.bool b6) ∧ Q (.bool b6) w4
def A.conf_of_1 : AT := (.seq (.reg []) (.seq (.reg []) .leaf))
theorem W.conf_of_1_eq (t : Array Value) (x : Addr) (w : World) (Q : Value → World → Prop) : W.conf_of_1 t x w Q = DF Try.prog tk A.conf_of_1 Try.f55 [.agg t, .pointer (some x)] w Q := by kernel_rfl
theorem W.conf_of_1_ok (t : Array Value) (x : Addr) (w : World) (Q : Value → World → Prop) (h : W.conf_of_1 t x w Q) : Calls Try.prog F.conf_of_1 #[.agg t, .pointer (some x)] w fun e w1 => ∃ v, e = .returned v ∧ Q v w1 :=
  calls_of_DF hmix Try.func55 (by kernel_rfl) (Eq.mp (W.conf_of_1_eq t x w Q) h)

/-- stanchion/conf.alike -/
def W.conf_alike (a : Array Value) (b : Array Value) (w : World) (Q : Value → World → Prop) : Prop :=
  Nx (w.alloc (.cells a Ty.api_Service)) fun w1 => Nx (w1.alloc (.cells b Ty.api_Service)) fun w2 =>
  ∃ n3 : Int, w2.cell? ⟨w.heap.size, 0, none⟩ = some (.int .i64 n3) ∧ ∃ n4 : Int, w2.cell? ⟨w1.heap.size, 0, none⟩ = some (.int .i64 n4) ∧
  Jn (
    fun k5 : Bool → World → Prop => (
      ((n3 : Int) == n4) = true → ∃ l6 : List Value, rdCells w2 (Addr.add ⟨w.heap.size, 0, none⟩ 1) 0 17 = some l6 ∧
      ∃ l7 : List Value, rdCells w2 (Addr.add ⟨w1.heap.size, 0, none⟩ 1) 0 17 = some l7 ∧
      ∃ b8 : Bool, AggEq Try.prog Ty.api_Addr l6.toArray l7.toArray b8 ∧ k5 b8 w2)
    ∧ (((n3 : Int) == n4) = false → k5 false w2))
  (
    fun (b9 : Bool) (w10 : World) => Jn (
      fun k11 : Bool → World → Prop => (
        b9 = true → ∃ n12 : Int, w10.cell? (Addr.add ⟨w.heap.size, 0, none⟩ 18) = some (.int .u16 n12) ∧
        ∃ n13 : Int, w10.cell? (Addr.add ⟨w1.heap.size, 0, none⟩ 18) = some (.int .u16 n13) ∧
        k11 ((n12 : Int) == n13) w10)
      ∧ (b9 = false → k11 false w10))
    (
      fun (b14 : Bool) (w15 : World) => Jn (
        fun k16 : Bool → World → Prop => (
          b14 = true → ∃ n17 : Int, w15.cell? (Addr.add ⟨w.heap.size, 0, none⟩ 19) = some (.int .u8 n17) ∧
          ∃ n18 : Int, w15.cell? (Addr.add ⟨w1.heap.size, 0, none⟩ 19) = some (.int .u8 n18) ∧
          k16 ((n17 : Int) == n18) w15)
        ∧ (b14 = false → k16 false w15))
      (
        fun (b19 : Bool) (w20 : World) => Jn (
          fun k21 : Bool → World → Prop => (
            b19 = true → ∃ n22 : Int, w20.cell? (Addr.add ⟨w.heap.size, 0, none⟩ 20) = some (.int .i64 n22) ∧
            ∃ n23 : Int, w20.cell? (Addr.add ⟨w1.heap.size, 0, none⟩ 20) = some (.int .i64 n23) ∧
            k21 ((n22 : Int) == n23) w20)
          ∧ (b19 = false → k21 false w20))
        (
          fun (b24 : Bool) (w25 : World) => Jn (
            fun k26 : Bool → World → Prop => (
              b24 = true → ∃ n27 : Int, w25.cell? (Addr.add ⟨w.heap.size, 0, none⟩ 21) = some (.int .u64 n27) ∧
              ∃ n28 : Int, w25.cell? (Addr.add ⟨w1.heap.size, 0, none⟩ 21) = some (.int .u64 n28) ∧
              k26 ((n27 : Int) == n28) w25)
            ∧ (b24 = false → k26 false w25))
          (fun (b29 : Bool) (w30 : World) => Q (.bool b29) w30))
        )
      )
    )
def A.conf_alike : AT := (.seq (.reg []) (.seq (.reg [.run, .run, .run, .run, .run, .run, .split 5, .run, .run, .run, .run, .run, .run, .split 5, .run, .run, .run, .run, .run, .run, .split 5, .run, .run, .run, .run, .run, .run, .split 5, .run, .run, .run, .run, .run, .run, .split 5]) .leaf))
theorem W.conf_alike_eq (a : Array Value) (b : Array Value) (w : World) (Q : Value → World → Prop) : W.conf_alike a b w Q = DF Try.prog tk A.conf_alike Try.f56 [.agg a, .agg b] w Q := by kernel_rfl
theorem W.conf_alike_ok (a : Array Value) (b : Array Value) (w : World) (Q : Value → World → Prop) (h : W.conf_alike a b w Q) : Calls Try.prog F.conf_alike #[.agg a, .agg b] w fun e w1 => ∃ v, e = .returned v ∧ Q v w1 :=
  calls_of_DF hmix Try.func56 (by kernel_rfl) (Eq.mp (W.conf_alike_eq a b w Q) h)

/-- stanchion/conf.bare -/
def W.conf_bare (s : Array Value) (w : World) (Q : Value → World → Prop) : Prop :=
  Nx (w.alloc (.cells s Ty.api_Service)) fun w1 => Nx (
    w1.alloc (
      .cells #[.int .i64 0, .bool false, .int .u8 0, .int .u8 0, .int .u8 0, .int .u8 0, .int .u8 0, .int .u8 0, .int .u8 0, .int .u8 0, .int .u8 0, .int .u8 0, .int .u8 0, .int .u8 0, .int .u8 0, .int .u8 0, .int .u8 0, .int .u8 0, .int .u16 0, .int .u8 0, .int .i64 0, .int .u64 0, .slice none 0 0] Ty.api_Service)
    )
  fun w2 => (∃ u : Value, w2.cell? (Addr.add ⟨w.heap.size, 0, none⟩ 22) = some u) ∧
  w2.frozen? (Addr.add ⟨w.heap.size, 0, none⟩ 22) = false ∧ Nx (w2.setCell (Addr.add ⟨w.heap.size, 0, none⟩ 22) (.slice none 0 0)) fun w3 =>
  ∃ l4 : List Value, rdCells w3 ⟨w.heap.size, 0, none⟩ 0 23 = some l4 ∧ StoreOk w3 ⟨w1.heap.size, 0, none⟩ (Array.toList l4.toArray) ∧
  Array.size l4.toArray = 23 ∧ Nx (setCells w3 ⟨w1.heap.size, 0, none⟩ 0 (Array.toList l4.toArray)) fun w5 =>
  ∃ l6 : List Value, rdCells w5 ⟨w1.heap.size, 0, none⟩ 0 23 = some l6 ∧ Q (.agg l6.toArray) w5
def A.conf_bare : AT := (.seq (.reg []) (.seq (.reg []) (.seq (.reg []) .leaf)))
theorem W.conf_bare_eq (s : Array Value) (w : World) (Q : Value → World → Prop) : W.conf_bare s w Q = DF Try.prog tk A.conf_bare Try.f57 [.agg s] w Q := by kernel_rfl
theorem W.conf_bare_ok (s : Array Value) (w : World) (Q : Value → World → Prop) (h : W.conf_bare s w Q) : Calls Try.prog F.conf_bare #[.agg s] w fun e w1 => ∃ v, e = .returned v ∧ Q v w1 :=
  calls_of_DF hmix Try.func57 (by kernel_rfl) (Eq.mp (W.conf_bare_eq s w Q) h)

/-- stanchion/conf.at -/
def W.conf_at (l : Sl) (b : Array Value) (w : World) (Q : Value → World → Prop) : Prop :=
  Nx (w.alloc (.cells b Ty.api_Backend)) fun w1 => Nx (
    w1.alloc (
      .cells #[.int .i64 0, .bool false, .int .u8 0, .int .u8 0, .int .u8 0, .int .u8 0, .int .u8 0, .int .u8 0, .int .u8 0, .int .u8 0, .int .u8 0, .int .u8 0, .int .u8 0, .int .u8 0, .int .u8 0, .int .u8 0, .int .u8 0, .int .u8 0, .int .u16 0, .int .i64 0, .bool false] Ty.api_Backend)
    )
  fun w2 => Calls Try.prog F.slices_IndexFunc_Sl_api_Backend_api_Backend #[.slice l.a l.len l.cap, .func (.func F.conf_at_1) #[] #[.pointer (some ⟨w.heap.size, 0, none⟩)]] w2 fun e4 w3 =>
  ∃ n5 : Int, e4 = .returned (.int .i64 n5) ∧ (
    (decide ((n5 : Int) < 0)) = true → ∃ c6 : Array Value, Sem.run Try.prog (Instr.build Ty.api_Backend #[]) w3 = .ok (.agg c6) w3 ∧
    StoreOk w3 ⟨w1.heap.size, 0, none⟩ (Array.toList c6) ∧ Array.size c6 = 21 ∧
    Nx (setCells w3 ⟨w1.heap.size, 0, none⟩ 0 (Array.toList c6)) fun w7 => ∃ l8 : List Value, rdCells w7 ⟨w1.heap.size, 0, none⟩ 0 21 = some l8 ∧
    Q (.tuple #[.agg l8.toArray, .bool false]) w7)
  ∧ (
    (decide ((n5 : Int) < 0)) = false → ∃ a9 : Addr, l.a = some a9 ∧ ((0 : Int) ≤ n5 ∧ n5 < ((l.len : Nat) : Int)) ∧
    ∃ l10 : List Value, rdCells w3 (a9.add (Int.toNat n5 * 21)) 0 21 = some l10 ∧
    StoreOk w3 ⟨w1.heap.size, 0, none⟩ (Array.toList l10.toArray) ∧ Array.size l10.toArray = 21 ∧
    Nx (setCells w3 ⟨w1.heap.size, 0, none⟩ 0 (Array.toList l10.toArray)) fun w11 =>
    ∃ l12 : List Value, rdCells w11 ⟨w1.heap.size, 0, none⟩ 0 21 = some l12 ∧
    Q (.tuple #[.agg l12.toArray, .bool true]) w11)
def A.conf_at : AT := (.seq (.reg []) (.seq (.reg []) (.seq (.seq (.reg []) (.cond (.seq (.reg []) .leaf) .leaf)) (.seq (.reg []) .leaf))))
theorem W.conf_at_eq (l : Sl) (b : Array Value) (w : World) (Q : Value → World → Prop) : W.conf_at l b w Q = DF Try.prog tk A.conf_at Try.f58 [.slice l.a l.len l.cap, .agg b] w Q := by kernel_rfl
theorem W.conf_at_ok (l : Sl) (b : Array Value) (w : World) (Q : Value → World → Prop) (h : W.conf_at l b w Q) : Calls Try.prog F.conf_at #[.slice l.a l.len l.cap, .agg b] w fun e w1 => ∃ v, e = .returned v ∧ Q v w1 :=
  calls_of_DF hmix Try.func58 (by kernel_rfl) (Eq.mp (W.conf_at_eq l b w Q) h)

/-- (*stanchion/conf.differ).backend -/
def W.conf_differ_backend (d : Option Addr) (was : Array Value) (id : Int) (b : Array Value) (w : World) (Q : Value → World → Prop) : Prop :=
  Nx (w.alloc (.cells was Ty.api_Service)) fun w1 => Nx (w1.alloc (.cells b Ty.api_Backend)) fun w2 =>
  ∃ s3 : Sl, w2.cell? (Addr.add ⟨w.heap.size, 0, none⟩ 22) = some (.slice s3.a s3.len s3.cap) ∧
  ∃ l4 : List Value, rdCells w2 ⟨w1.heap.size, 0, none⟩ 0 21 = some l4 ∧ Calls Try.prog F.conf_at #[.slice s3.a s3.len s3.cap, .agg l4.toArray] w2 fun e6 w5 =>
  ∃ c7 : Array Value, ∃ b8 : Bool, e6 = .returned (.tuple #[.agg c7, .bool b8]) ∧
  Nx (
    w5.alloc (
      .cells #[.int .i64 0, .bool false, .int .u8 0, .int .u8 0, .int .u8 0, .int .u8 0, .int .u8 0, .int .u8 0, .int .u8 0, .int .u8 0, .int .u8 0, .int .u8 0, .int .u8 0, .int .u8 0, .int .u8 0, .int .u8 0, .int .u8 0, .int .u8 0, .int .u16 0, .int .i64 0, .bool false] Ty.api_Backend)
    )
  fun w9 => StoreOk w9 ⟨w5.heap.size, 0, none⟩ (Array.toList c7) ∧ Array.size c7 = 21 ∧
  Nx (setCells w9 ⟨w5.heap.size, 0, none⟩ 0 (Array.toList c7)) fun w10 => Jn (
    fun k11 : World → Prop => (
      (!b8) = true → ∃ l12 : List Value, rdCells w10 ⟨w1.heap.size, 0, none⟩ 0 21 = some l12 ∧
      StoreOk w10 ⟨w5.heap.size, 0, none⟩ (Array.toList l12.toArray) ∧ Array.size l12.toArray = 21 ∧
      Nx (setCells w10 ⟨w5.heap.size, 0, none⟩ 0 (Array.toList l12.toArray)) fun w13 =>
      (∃ u : Value, w13.cell? (Addr.add ⟨w5.heap.size, 0, none⟩ 20) = some u) ∧
      w13.frozen? (Addr.add ⟨w5.heap.size, 0, none⟩ 20) = false ∧ Nx (w13.setCell (Addr.add ⟨w5.heap.size, 0, none⟩ 20) (.bool false)) fun w14 =>
      ∃ l15 : List Value, rdCells w14 ⟨w5.heap.size, 0, none⟩ 0 21 = some l15 ∧
      ∃ c16 : Array Value, Sem.run Try.prog (Instr.build Ty.api_Op #[(0, .int .i64 5), (2, .int .i64 id), (7, .agg l15.toArray)]) w14 = .ok (.agg c16) w14 ∧
      Calls Try.prog F.conf_differ_put #[.pointer d, .agg c16] w14 fun e18 w17 =>
      e18 = .returned (.tuple #[]) ∧ k11 w17)
    ∧ ((!b8) = false → k11 w10))
  (
    fun  (w19 : World) => Jn (
      fun k20 : World → Prop => ∃ n21 : Int, w19.cell? (Addr.add ⟨w5.heap.size, 0, none⟩ 19) = some (.int .i64 n21) ∧
      ∃ n22 : Int, w19.cell? (Addr.add ⟨w1.heap.size, 0, none⟩ 19) = some (.int .i64 n22) ∧
      (
        ((n21 : Int) != n22) = true → ∃ n23 : Int, w19.cell? ⟨w1.heap.size, 0, none⟩ = some (.int .i64 n23) ∧
        ∃ n24 : Int, w19.cell? (Addr.add ⟨w1.heap.size, 0, none⟩ 19) = some (.int .i64 n24) ∧
        ∃ c25 : Array Value, Sem.run Try.prog (
          Instr.build Ty.api_Op #[(0, .int .i64 8), (2, .int .i64 id), (3, .int .i64 n23), (4, .int .u64 (IntKind.wrap .u64 n24))])
        w19 = .ok (.agg c25) w19 ∧ Calls Try.prog F.conf_differ_put #[.pointer d, .agg c25] w19 fun e27 w26 =>
        e27 = .returned (.tuple #[]) ∧ k20 w26)
      ∧ (((n21 : Int) != n22) = false → k20 w19))
    (
      fun  (w28 : World) => ∃ b29 : Bool, w28.cell? (Addr.add ⟨w5.heap.size, 0, none⟩ 20) = some (.bool b29) ∧
      ∃ b30 : Bool, w28.cell? (Addr.add ⟨w1.heap.size, 0, none⟩ 20) = some (.bool b30) ∧
      (
        (!(b29 == b30)) = true → ∃ n31 : Int, w28.cell? ⟨w1.heap.size, 0, none⟩ = some (.int .i64 n31) ∧
        ∃ b32 : Bool, w28.cell? (Addr.add ⟨w1.heap.size, 0, none⟩ 20) = some (.bool b32) ∧
        ∃ c33 : Array Value, Sem.run Try.prog (Instr.build Ty.api_Op #[(0, .int .i64 7), (2, .int .i64 id), (3, .int .i64 n31), (5, .bool b32)]) w28 = .ok (.agg c33) w28 ∧
        Calls Try.prog F.conf_differ_put #[.pointer d, .agg c33] w28 fun e35 w34 =>
        e35 = .returned (.tuple #[]) ∧ Q (.tuple #[]) w34)
      ∧ ((!(b29 == b30)) = false → Q (.tuple #[]) w28))
    )
def A.conf_differ_backend : AT := (.seq (.reg []) (.seq (.reg []) (.seq (.jk [] [0, 2, 7, 8] (.seq (.reg []) (.cond (.seq (.reg []) (.seq (.reg []) (.reg []))) .leaf))) (.seq (.jk [] [0, 2, 7, 8] (.seq (.reg []) (.cond (.reg []) .leaf))) (.seq (.reg []) (.cond (.reg []) .leaf))))))
theorem W.conf_differ_backend_eq (d : Option Addr) (was : Array Value) (id : Int) (b : Array Value) (w : World) (Q : Value → World → Prop) : W.conf_differ_backend d was id b w Q = DF Try.prog tk A.conf_differ_backend Try.f59 [.pointer d, .agg was, .int .i64 id, .agg b] w Q := by kernel_rfl
theorem W.conf_differ_backend_ok (d : Option Addr) (was : Array Value) (id : Int) (b : Array Value) (w : World) (Q : Value → World → Prop) (h : W.conf_differ_backend d was id b w Q) : Calls Try.prog F.conf_differ_backend #[.pointer d, .agg was, .int .i64 id, .agg b] w fun e w1 => ∃ v, e = .returned v ∧ Q v w1 :=
  calls_of_DF hmix Try.func59 (by kernel_rfl) (Eq.mp (W.conf_differ_backend_eq d was id b w Q) h)

/-- stanchion/farm.at$1 -/
def W.farm_at_1 (b : Array Value) (id : Int) (w : World) (Q : Value → World → Prop) : Prop :=
  Nx (w.alloc (.cells b Ty.api_Backend)) fun w1 => ∃ n2 : Int, w1.cell? ⟨w.heap.size, 0, none⟩ = some (.int .i64 n2) ∧
  Calls Try.prog F.cmp_Compare_int #[.int .i64 n2, .int .i64 id] w1 fun e4 w3 =>
  ∃ n5 : Int, e4 = .returned (.int .i64 n5) ∧ Q (.int .i64 n5) w3
def A.farm_at_1 : AT := (.seq (.reg []) (.seq (.reg []) .leaf))
theorem W.farm_at_1_eq (b : Array Value) (id : Int) (w : World) (Q : Value → World → Prop) : W.farm_at_1 b id w Q = DF Try.prog tk A.farm_at_1 Try.f64 [.agg b, .int .i64 id] w Q := by kernel_rfl
theorem W.farm_at_1_ok (b : Array Value) (id : Int) (w : World) (Q : Value → World → Prop) (h : W.farm_at_1 b id w Q) : Calls Try.prog F.farm_at_1 #[.agg b, .int .i64 id] w fun e w1 => ∃ v, e = .returned v ∧ Q v w1 :=
  calls_of_DF hmix Try.func64 (by kernel_rfl) (Eq.mp (W.farm_at_1_eq b id w Q) h)

/-- stanchion/addr.good -/
def W.addr_good (a : Array Value) (w : World) (Q : Value → World → Prop) : Prop :=
  Nx (w.alloc (.cells a Ty.api_Addr)) fun w1 => ∃ b2 : Bool, w1.cell? ⟨w.heap.size, 0, none⟩ = some (.bool b2) ∧
  Jn (
    fun k3 : Bool → World → Prop => (b2 = true → k3 true w1) ∧ (
      b2 = false → ((0 : Int) ≤ 12 ∧ 12 ≤ ((16 : Nat) : Int)) ∧ 12 ≤ ((Int.toNat 12) - 0) ∧
      ∃ a4 : Addr, (cutA (some (Addr.add ⟨w.heap.size, 0, none⟩ 1)) 1 0 16) = some a4 ∧
      ∃ l5 : List Value, rdCells w1 a4 0 12 = some l5 ∧ ∃ c6 : Array Value, Sem.run Try.prog (Instr.build Ty.n12_uint8 #[]) w1 = .ok (.agg c6) w1 ∧
      ∃ b7 : Bool, AggEq Try.prog Ty.n12_uint8 l5.toArray c6 b7 ∧ k3 b7 w1)
    )
  (fun (b8 : Bool) (w9 : World) => Q (.bool b8) w9)
def A.addr_good : AT := (.seq (.reg []) (.seq (.reg [.run, .run, .run, .split 6]) .leaf))
theorem W.addr_good_eq (a : Array Value) (w : World) (Q : Value → World → Prop) : W.addr_good a w Q = DF Try.prog tk A.addr_good Try.f66 [.agg a] w Q := by kernel_rfl
theorem W.addr_good_ok (a : Array Value) (w : World) (Q : Value → World → Prop) (h : W.addr_good a w Q) : Calls Try.prog F.addr_good #[.agg a] w fun e w1 => ∃ v, e = .returned v ∧ Q v w1 :=
  calls_of_DF hmix Try.func66 (by kernel_rfl) (Eq.mp (W.addr_good_eq a w Q) h)

/-- stanchion/conf.at$1 -/
def W.conf_at_1 (c : Array Value) (x : Addr) (w : World) (Q : Value → World → Prop) : Prop :=
  Nx (w.alloc (.cells c Ty.api_Backend)) fun w1 => ∃ n2 : Int, w1.cell? ⟨w.heap.size, 0, none⟩ = some (.int .i64 n2) ∧
  ∃ n3 : Int, w1.cell? x = some (.int .i64 n3) ∧ Jn (
    fun k4 : Bool → World → Prop => (
      ((n2 : Int) == n3) = true → ∃ l5 : List Value, rdCells w1 (Addr.add ⟨w.heap.size, 0, none⟩ 1) 0 17 = some l5 ∧
      ∃ l6 : List Value, rdCells w1 (x.add 1) 0 17 = some l6 ∧ ∃ b7 : Bool, AggEq Try.prog Ty.api_Addr l5.toArray l6.toArray b7 ∧
      k4 b7 w1)
    ∧ (((n2 : Int) == n3) = false → k4 false w1))
  (
    fun (b8 : Bool) (w9 : World) => Jn (
      fun k10 : Bool → World → Prop => (
        b8 = true → ∃ n11 : Int, w9.cell? (Addr.add ⟨w.heap.size, 0, none⟩ 18) = some (.int .u16 n11) ∧
        ∃ n12 : Int, w9.cell? (x.add 18) = some (.int .u16 n12) ∧ k10 ((n11 : Int) == n12) w9)
      ∧ (b8 = false → k10 false w9))
    (fun (b13 : Bool) (w14 : World) => Q (.bool b13) w14))
def A.conf_at_1 : AT := (.seq (.reg []) (.seq (.reg [.run, .run, .run, .run, .run, .run, .split 5, .run, .run, .run, .run, .run, .run, .split 5]) .leaf))
theorem W.conf_at_1_eq (c : Array Value) (x : Addr) (w : World) (Q : Value → World → Prop) : W.conf_at_1 c x w Q = DF Try.prog tk A.conf_at_1 Try.f71 [.agg c, .pointer (some x)] w Q := by kernel_rfl
theorem W.conf_at_1_ok (c : Array Value) (x : Addr) (w : World) (Q : Value → World → Prop) (h : W.conf_at_1 c x w Q) : Calls Try.prog F.conf_at_1 #[.agg c, .pointer (some x)] w fun e w1 => ∃ v, e = .returned v ∧ Q v w1 :=
  calls_of_DF hmix Try.func71 (by kernel_rfl) (Eq.mp (W.conf_at_1_eq c x w Q) h)

end Go.Proofs.Ytldeegpcldhjaaa
