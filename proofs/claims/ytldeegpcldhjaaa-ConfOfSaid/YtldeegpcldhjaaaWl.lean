/- Printed by gen.py: each function of the program as what must be shown of it. -/
import Derived.Test.YtldeegpcldhjaaaGb
namespace Go.Proofs.Ytldeegpcldhjaaa
open Go Gx
set_option maxRecDepth 100000
/-- stanchion/stanchionlaw39.ConfThere -/
def W.law39_ConfThere (a : Sl) (b : Sl) (w : World) (Q : Value → World → Prop) : Prop :=
  Calls Try.prog F.law39_Few #[.slice a.a a.len a.cap] w fun e2 w1 => ∃ s3 : Sl, e2 = .returned (.slice s3.a s3.len s3.cap) ∧
  Calls Try.prog F.law39_Few #[.slice b.a b.len b.cap] w1 fun e5 w4 => ∃ s6 : Sl, e5 = .returned (.slice s6.a s6.len s6.cap) ∧
  Calls Try.prog F.farm_New #[] w4 fun e8 w7 => ∃ p9 : Option Addr, e8 = .returned (.pointer p9) ∧
  Calls Try.prog F.law39_Few #[.slice s3.a s3.len s3.cap] w7 fun e11 w10 => ∃ s12 : Sl, e11 = .returned (.slice s12.a s12.len s12.cap) ∧
  Calls Try.prog F.conf_Steps #[.slice s12.a s12.len s12.cap] w10 fun e14 w13 =>
  ∃ s15 : Sl, ∃ n16 : Int, e14 = .returned (.tuple #[.slice s15.a s15.len s15.cap, .int .i64 n16]) ∧
  Calls Try.prog F.law39_Few #[.slice s3.a s3.len s3.cap] w13 fun e18 w17 =>
  ∃ s19 : Sl, e18 = .returned (.slice s19.a s19.len s19.cap) ∧ Calls Try.prog F.law39_Few #[.slice s6.a s6.len s6.cap] w17 fun e21 w20 =>
  ∃ s22 : Sl, e21 = .returned (.slice s22.a s22.len s22.cap) ∧ Calls Try.prog F.conf_Diff #[.slice s19.a s19.len s19.cap, .slice s22.a s22.len s22.cap] w20 fun e24 w23 =>
  ∃ s25 : Sl, ∃ n26 : Int, e24 = .returned (.tuple #[.slice s25.a s25.len s25.cap, .int .i64 n26]) ∧
  (
    (((n16 : Int) != 0) || ((n26 : Int) != 0)) = true → Calls Try.prog F.law39_lives #[] w23 fun e28 w27 =>
    ∃ b29 : Bool, e28 = .returned (.bool b29) ∧ Q (.bool b29) w27)
  ∧ (
    (((n16 : Int) != 0) || ((n26 : Int) != 0)) = false → Calls Try.prog F.conf_Apply #[.pointer p9, .slice s15.a s15.len s15.cap] w23 fun e31 w30 =>
    ∃ n32 : Int, ∃ n33 : Int, e31 = .returned (.tuple #[.int .i64 n32, .int .i64 n33]) ∧
    Calls Try.prog F.conf_Of #[.pointer p9] w30 fun e35 w34 => ∃ s36 : Sl, e35 = .returned (.slice s36.a s36.len s36.cap) ∧
    Calls Try.prog F.conf_Apply #[.pointer p9, .slice s25.a s25.len s25.cap] w34 fun e38 w37 =>
    ∃ n39 : Int, ∃ n40 : Int, e38 = .returned (.tuple #[.int .i64 n39, .int .i64 n40]) ∧
    Calls Try.prog F.law39_Few #[.slice s3.a s3.len s3.cap] w37 fun e42 w41 =>
    ∃ s43 : Sl, e42 = .returned (.slice s43.a s43.len s43.cap) ∧ Calls Try.prog F.law39_Few #[.slice s3.a s3.len s3.cap] w41 fun e45 w44 =>
    ∃ s46 : Sl, e45 = .returned (.slice s46.a s46.len s46.cap) ∧ Calls Try.prog F.conf_Diff #[.slice s43.a s43.len s43.cap, .slice s46.a s46.len s46.cap] w44 fun e48 w47 =>
    ∃ s49 : Sl, ∃ n50 : Int, e48 = .returned (.tuple #[.slice s49.a s49.len s49.cap, .int .i64 n50]) ∧
    Jn (
      fun k51 : Bool → World → Prop => (
        (((n32 : Int) == ((s15.len : Nat) : Int)) && ((n33 : Int) == 0)) = true →
        Calls Try.prog F.ref39_Same #[.slice s36.a s36.len s36.cap, .slice s3.a s3.len s3.cap] w47 fun e53 w52 =>
        ∃ b54 : Bool, e53 = .returned (.bool b54) ∧ k51 b54 w52)
      ∧ ((((n32 : Int) == ((s15.len : Nat) : Int)) && ((n33 : Int) == 0)) = false → k51 false w47))
    (
      fun (b55 : Bool) (w56 : World) => Jn (
        fun k57 : Bool → World → Prop => (
          ((b55 && ((n39 : Int) == ((s25.len : Nat) : Int))) && ((n40 : Int) == 0)) = true →
          Calls Try.prog F.conf_Of #[.pointer p9] w56 fun e59 w58 => ∃ s60 : Sl, e59 = .returned (.slice s60.a s60.len s60.cap) ∧
          Calls Try.prog F.ref39_Same #[.slice s60.a s60.len s60.cap, .slice s6.a s6.len s6.cap] w58 fun e62 w61 =>
          ∃ b63 : Bool, e62 = .returned (.bool b63) ∧ k57 b63 w61)
        ∧ (((b55 && ((n39 : Int) == ((s25.len : Nat) : Int))) && ((n40 : Int) == 0)) = false → k57 false w56))
      (
        fun (b64 : Bool) (w65 : World) => Jn (
          fun k66 : Bool → World → Prop => (
            ((b64 && ((((s49.len : Nat) : Int) : Int) == 0)) && ((n50 : Int) == 0)) = true →
            Calls Try.prog F.law39_lives #[] w65 fun e68 w67 => ∃ b69 : Bool, e68 = .returned (.bool b69) ∧
            k66 b69 w67)
          ∧ (((b64 && ((((s49.len : Nat) : Int) : Int) == 0)) && ((n50 : Int) == 0)) = false → k66 false w65))
        (fun (b70 : Bool) (w71 : World) => Q (.bool b70) w71))
      )
    )
def A.law39_ConfThere : AT := (.seq (.reg []) (.seq (.reg []) (.seq (.reg []) (.seq (.reg []) (.seq (.reg []) (.seq (.seq (.reg [.run, .run, .run, .pure 2]) (.cond (.seq (.reg []) .leaf) .leaf)) (.seq (.reg []) (.seq (.reg []) (.seq (.reg []) (.seq (.reg []) (.seq (.reg [.run, .run, .run, .run, .run, .pure 2, .run, .run, .run, .split 3, .run, .run, .run, .run, .pure 4, .run, .run, .run, .run, .run, .pure 2, .run, .run, .run, .split 4, .run, .run, .run, .run, .run, .pure 3, .run, .run, .run, .run, .pure 2, .run, .run, .run, .split 1]) .leaf)))))))))))
theorem W.law39_ConfThere_eq (a : Sl) (b : Sl) (w : World) (Q : Value → World → Prop) : W.law39_ConfThere a b w Q = DF Try.prog tk A.law39_ConfThere Try.f3 [.slice a.a a.len a.cap, .slice b.a b.len b.cap] w Q := by kernel_rfl
theorem W.law39_ConfThere_ok (a : Sl) (b : Sl) (w : World) (Q : Value → World → Prop) (h : W.law39_ConfThere a b w Q) : Calls Try.prog F.law39_ConfThere #[.slice a.a a.len a.cap, .slice b.a b.len b.cap] w fun e w1 => ∃ v, e = .returned v ∧ Q v w1 :=
  calls_of_DF hmix Try.func3 (by kernel_rfl) (Eq.mp (W.law39_ConfThere_eq a b w Q) h)

/-- stanchion/stanchionlaw39.ConfNoMore -/
def W.law39_ConfNoMore (a : Sl) (b : Sl) (w : World) (Q : Value → World → Prop) : Prop :=
  Calls Try.prog F.law39_Few #[.slice a.a a.len a.cap] w fun e2 w1 => ∃ s3 : Sl, e2 = .returned (.slice s3.a s3.len s3.cap) ∧
  Calls Try.prog F.law39_Few #[.slice b.a b.len b.cap] w1 fun e5 w4 => ∃ s6 : Sl, e5 = .returned (.slice s6.a s6.len s6.cap) ∧
  Calls Try.prog F.law39_Few #[.slice s3.a s3.len s3.cap] w4 fun e8 w7 => ∃ s9 : Sl, e8 = .returned (.slice s9.a s9.len s9.cap) ∧
  Calls Try.prog F.law39_Few #[.slice s6.a s6.len s6.cap] w7 fun e11 w10 => ∃ s12 : Sl, e11 = .returned (.slice s12.a s12.len s12.cap) ∧
  Calls Try.prog F.conf_Diff #[.slice s9.a s9.len s9.cap, .slice s12.a s12.len s12.cap] w10 fun e14 w13 =>
  ∃ s15 : Sl, ∃ n16 : Int, e14 = .returned (.tuple #[.slice s15.a s15.len s15.cap, .int .i64 n16]) ∧
  (
    ((n16 : Int) != 0) = true → Calls Try.prog F.law39_lives #[] w13 fun e18 w17 =>
    ∃ b19 : Bool, e18 = .returned (.bool b19) ∧ Q (.bool b19) w17)
  ∧ (
    ((n16 : Int) != 0) = false → Nx (w13.alloc (.cells #[.slice s3.a s3.len s3.cap] Ty.ref20_Farm)) fun w20 =>
    Nx (w20.alloc (.cells #[.slice s6.a s6.len s6.cap] Ty.ref20_Farm)) fun w21 =>
    ∃ (I22 : Int → World → Prop) (μ23 : Int → World → Nat), I22 0 w21 ∧ ∀ (n24 : Int) (w25 : World), I22 n24 w25 →
    (
      (decide ((n24 : Int) < ((s15.len : Nat) : Int))) = true → Jn (
        fun k26 : World → Prop => Nx (w25.drew) fun w27 => ∃ W28 : Nat → Prop, ∃ a29 : Addr, s15.a = some a29 ∧
        ((0 : Int) ≤ n24 ∧ n24 < ((s15.len : Nat) : Int)) ∧ ¬ W28 ((a29.add (Int.toNat n24 * 51)).add 2).block ∧
        ∃ n30 : Int, w27.cell? ((a29.add (Int.toNat n24 * 51)).add 2) = some (.int .i64 n30) ∧
        ∃ a31 : Addr, s15.a = some a31 ∧ ((0 : Int) ≤ n24 ∧ n24 < ((s15.len : Nat) : Int)) ∧
        ¬ W28 ((a31.add (Int.toNat n24 * 51)).add 2).block ∧ ∃ n32 : Int, w27.cell? ((a31.add (Int.toNat n24 * 51)).add 2) = some (.int .i64 n32) ∧
        Calls Try.prog F.ref20_Farm_At #[.pointer (some ⟨w13.heap.size, 0, none⟩), .int .i64 n30] w27 fun e34 w33 =>
        ∃ n35 : Int, e34 = .returned (.int .i64 n35) ∧ Chg W28 w27 w33 ∧ Calls Try.prog F.ref20_Farm_At #[.pointer (some ⟨w20.heap.size, 0, none⟩), .int .i64 n32] w33 fun e37 w36 =>
        ∃ n38 : Int, e37 = .returned (.int .i64 n38) ∧ Jn (
          fun k39 : World → Prop => ∃ a40 : Addr, s15.a = some a40 ∧ ((0 : Int) ≤ n24 ∧ n24 < ((s15.len : Nat) : Int)) ∧
          ∃ n41 : Int, w36.cell? (a40.add (Int.toNat n24 * 51)) = some (.int .i64 n41) ∧
          (
            ((((n41 : Int) == 4) && (decide ((n35 : Int) ≥ 0))) && (decide ((n38 : Int) ≥ 0))) = true →
            Nx (w36.drew) fun w42 => ∃ W43 : Nat → Prop, ∃ a44 : Addr, s3.a = some a44 ∧
            ((0 : Int) ≤ n35 ∧ n35 < ((s3.len : Nat) : Int)) ∧ ¬ W43 (a44.add (Int.toNat n35 * 23)).block ∧
            ∃ l45 : List Value, rdCells w42 (a44.add (Int.toNat n35 * 23)) 0 23 = some l45 ∧
            ∃ a46 : Addr, s6.a = some a46 ∧ ((0 : Int) ≤ n38 ∧ n38 < ((s6.len : Nat) : Int)) ∧
            ¬ W43 (a46.add (Int.toNat n38 * 23)).block ∧ ∃ l47 : List Value, rdCells w42 (a46.add (Int.toNat n38 * 23)) 0 23 = some l47 ∧
            (
              Nx (
                w42.alloc (
                  .cells #[.int .i64 0, .bool false, .int .u8 0, .int .u8 0, .int .u8 0, .int .u8 0, .int .u8 0, .int .u8 0, .int .u8 0, .int .u8 0, .int .u8 0, .int .u8 0, .int .u8 0, .int .u8 0, .int .u8 0, .int .u8 0, .int .u8 0, .int .u8 0, .int .u16 0, .int .u8 0, .int .i64 0, .int .u64 0, .slice none 0 0] Ty.api_Service)
                )
              fun w48 => Chg W43 w42 w48 ∧ Nx (
                w48.alloc (
                  .cells #[.int .i64 0, .bool false, .int .u8 0, .int .u8 0, .int .u8 0, .int .u8 0, .int .u8 0, .int .u8 0, .int .u8 0, .int .u8 0, .int .u8 0, .int .u8 0, .int .u8 0, .int .u8 0, .int .u8 0, .int .u8 0, .int .u8 0, .int .u8 0, .int .u16 0, .int .u8 0, .int .i64 0, .int .u64 0, .slice none 0 0] Ty.api_Service)
                )
              fun w49 => Chg W43 w48 w49 ∧ StoreOk w49 ⟨w42.heap.size, 0, none⟩ (Array.toList l45.toArray) ∧
              Array.size l45.toArray = 23 ∧ Nx (setCells w49 ⟨w42.heap.size, 0, none⟩ 0 (Array.toList l45.toArray)) fun w50 =>
              Chg W43 w49 w50 ∧ StoreOk w50 ⟨w48.heap.size, 0, none⟩ (Array.toList l47.toArray) ∧
              Array.size l47.toArray = 23 ∧ Nx (setCells w50 ⟨w48.heap.size, 0, none⟩ 0 (Array.toList l47.toArray)) fun w51 =>
              ∃ s52 : Sl, ∃ w53 : World, Sem.run Try.prog (Instr.buildSlice Ty.Sl_api_Backend 0 #[]) w51 = .ok (.slice s52.a s52.len s52.cap) w53 ∧
              ∃ s54 : Sl, ∃ w55 : World, Sem.run Try.prog (Instr.buildSlice Ty.Sl_api_Backend 0 #[]) w53 = .ok (.slice s54.a s54.len s54.cap) w55 ∧
              (∃ u : Value, w55.cell? (Addr.add ⟨w42.heap.size, 0, none⟩ 22) = some u) ∧
              w55.frozen? (Addr.add ⟨w42.heap.size, 0, none⟩ 22) = false ∧ Nx (w55.setCell (Addr.add ⟨w42.heap.size, 0, none⟩ 22) (.slice s52.a s52.len s52.cap)) fun w56 =>
              (∃ u : Value, w56.cell? (Addr.add ⟨w48.heap.size, 0, none⟩ 22) = some u) ∧
              w56.frozen? (Addr.add ⟨w48.heap.size, 0, none⟩ 22) = false ∧ Nx (w56.setCell (Addr.add ⟨w48.heap.size, 0, none⟩ 22) (.slice s54.a s54.len s54.cap)) fun w57 =>
              ∃ l58 : List Value, rdCells w57 ⟨w42.heap.size, 0, none⟩ 0 23 = some l58 ∧
              ∃ l59 : List Value, rdCells w57 ⟨w48.heap.size, 0, none⟩ 0 23 = some l59 ∧
              Calls Try.prog F.ref20_Same #[.agg l58.toArray, .agg l59.toArray] w57 fun e61 w60 =>
              ∃ b62 : Bool, e61 = .returned (.bool b62) ∧ (b62 = true → Q (.bool false) w60) ∧
              (b62 = false → k39 w60))
            ∧ (
              Nx (
                w42.alloc (
                  .cells #[.int .i64 0, .bool false, .int .u8 0, .int .u8 0, .int .u8 0, .int .u8 0, .int .u8 0, .int .u8 0, .int .u8 0, .int .u8 0, .int .u8 0, .int .u8 0, .int .u8 0, .int .u8 0, .int .u8 0, .int .u8 0, .int .u8 0, .int .u8 0, .int .u16 0, .int .u8 0, .int .i64 0, .int .u64 0, .slice none 0 0] Ty.api_Service)
                )
              fun w63 => Chg W43 w42 w63 ∧ Nx (
                w63.alloc (
                  .cells #[.int .i64 0, .bool false, .int .u8 0, .int .u8 0, .int .u8 0, .int .u8 0, .int .u8 0, .int .u8 0, .int .u8 0, .int .u8 0, .int .u8 0, .int .u8 0, .int .u8 0, .int .u8 0, .int .u8 0, .int .u8 0, .int .u8 0, .int .u8 0, .int .u16 0, .int .u8 0, .int .i64 0, .int .u64 0, .slice none 0 0] Ty.api_Service)
                )
              fun w64 => Chg W43 w63 w64 ∧ StoreOk w64 ⟨w63.heap.size, 0, none⟩ (Array.toList l45.toArray) ∧
              Array.size l45.toArray = 23 ∧ Nx (setCells w64 ⟨w63.heap.size, 0, none⟩ 0 (Array.toList l45.toArray)) fun w65 =>
              Chg W43 w64 w65 ∧ StoreOk w65 ⟨w42.heap.size, 0, none⟩ (Array.toList l47.toArray) ∧
              Array.size l47.toArray = 23 ∧ Nx (setCells w65 ⟨w42.heap.size, 0, none⟩ 0 (Array.toList l47.toArray)) fun w66 =>
              ∃ s67 : Sl, ∃ w68 : World, Sem.run Try.prog (Instr.buildSlice Ty.Sl_api_Backend 0 #[]) w66 = .ok (.slice s67.a s67.len s67.cap) w68 ∧
              ∃ s69 : Sl, ∃ w70 : World, Sem.run Try.prog (Instr.buildSlice Ty.Sl_api_Backend 0 #[]) w68 = .ok (.slice s69.a s69.len s69.cap) w70 ∧
              (∃ u : Value, w70.cell? (Addr.add ⟨w63.heap.size, 0, none⟩ 22) = some u) ∧
              w70.frozen? (Addr.add ⟨w63.heap.size, 0, none⟩ 22) = false ∧ Nx (w70.setCell (Addr.add ⟨w63.heap.size, 0, none⟩ 22) (.slice s67.a s67.len s67.cap)) fun w71 =>
              (∃ u : Value, w71.cell? (Addr.add ⟨w42.heap.size, 0, none⟩ 22) = some u) ∧
              w71.frozen? (Addr.add ⟨w42.heap.size, 0, none⟩ 22) = false ∧ Nx (w71.setCell (Addr.add ⟨w42.heap.size, 0, none⟩ 22) (.slice s69.a s69.len s69.cap)) fun w72 =>
              ∃ l73 : List Value, rdCells w72 ⟨w63.heap.size, 0, none⟩ 0 23 = some l73 ∧
              ∃ l74 : List Value, rdCells w72 ⟨w42.heap.size, 0, none⟩ 0 23 = some l74 ∧
              Calls Try.prog F.ref20_Same #[.agg l73.toArray, .agg l74.toArray] w72 fun e76 w75 =>
              ∃ b77 : Bool, e76 = .returned (.bool b77) ∧ (b77 = true → Q (.bool false) w75) ∧
              (b77 = false → k39 w75))
            )
          ∧ (
            ((((n41 : Int) == 4) && (decide ((n35 : Int) ≥ 0))) && (decide ((n38 : Int) ≥ 0))) = false →
            k39 w36)
          )
        (
          fun  (w78 : World) => ∃ a79 : Addr, s15.a = some a79 ∧ ((0 : Int) ≤ n24 ∧ n24 < ((s15.len : Nat) : Int)) ∧
          ∃ n80 : Int, w78.cell? (a79.add (Int.toNat n24 * 51)) = some (.int .i64 n80) ∧
          (((((n80 : Int) != 6) || (decide ((n35 : Int) < 0))) || (decide ((n38 : Int) < 0))) = true → k26 w78) ∧
          (
            ((((n80 : Int) != 6) || (decide ((n35 : Int) < 0))) || (decide ((n38 : Int) < 0))) = false →
            Nx (w78.drew) fun w81 => ∃ W82 : Nat → Prop, ∃ a83 : Addr, s3.a = some a83 ∧
            ((0 : Int) ≤ n35 ∧ n35 < ((s3.len : Nat) : Int)) ∧ ¬ W82 (a83.add (Int.toNat n35 * 23)).block ∧
            ∃ l84 : List Value, rdCells w81 (a83.add (Int.toNat n35 * 23)) 0 23 = some l84 ∧
            ∃ a85 : Addr, s15.a = some a85 ∧ ((0 : Int) ≤ n24 ∧ n24 < ((s15.len : Nat) : Int)) ∧
            ¬ W82 ((a85.add (Int.toNat n24 * 51)).add 3).block ∧ ∃ n86 : Int, w81.cell? ((a85.add (Int.toNat n24 * 51)).add 3) = some (.int .i64 n86) ∧
            ∃ a87 : Addr, s6.a = some a87 ∧ ((0 : Int) ≤ n38 ∧ n38 < ((s6.len : Nat) : Int)) ∧
            ¬ W82 (a87.add (Int.toNat n38 * 23)).block ∧ ∃ l88 : List Value, rdCells w81 (a87.add (Int.toNat n38 * 23)) 0 23 = some l88 ∧
            ∃ a89 : Addr, s15.a = some a89 ∧ ((0 : Int) ≤ n24 ∧ n24 < ((s15.len : Nat) : Int)) ∧
            ¬ W82 ((a89.add (Int.toNat n24 * 51)).add 3).block ∧ ∃ n90 : Int, w81.cell? ((a89.add (Int.toNat n24 * 51)).add 3) = some (.int .i64 n90) ∧
            Calls Try.prog F.ref20_Has #[.agg l84.toArray, .int .i64 n86] w81 fun e92 w91 =>
            ∃ n93 : Int, e92 = .returned (.int .i64 n93) ∧ Chg W82 w81 w91 ∧ Calls Try.prog F.ref20_Has #[.agg l88.toArray, .int .i64 n90] w91 fun e95 w94 =>
            ∃ n96 : Int, e95 = .returned (.int .i64 n96) ∧ Nx (w94.drew) fun w97 => (
              (decide ((n93 : Int) ≥ 0)) = true → (
                (decide ((n96 : Int) ≥ 0)) = true → ∃ a98 : Addr, s3.a = some a98 ∧ ((0 : Int) ≤ n35 ∧ n35 < ((s3.len : Nat) : Int)) ∧
                ¬ False ∧ ∃ s99 : Sl, w97.cell? ((a98.add (Int.toNat n35 * 23)).add 22) = some (.slice s99.a s99.len s99.cap) ∧
                ∃ a100 : Addr, s99.a = some a100 ∧ ((0 : Int) ≤ n93 ∧ n93 < ((s99.len : Nat) : Int)) ∧
                ¬ False ∧ ∃ l101 : List Value, rdCells w97 ((a100.add (Int.toNat n93 * 21)).add 1) 0 17 = some l101 ∧
                ∃ a102 : Addr, s6.a = some a102 ∧ ((0 : Int) ≤ n38 ∧ n38 < ((s6.len : Nat) : Int)) ∧
                ¬ False ∧ ∃ s103 : Sl, w97.cell? ((a102.add (Int.toNat n38 * 23)).add 22) = some (.slice s103.a s103.len s103.cap) ∧
                ∃ a104 : Addr, s103.a = some a104 ∧ ((0 : Int) ≤ n96 ∧ n96 < ((s103.len : Nat) : Int)) ∧
                ¬ False ∧ ∃ l105 : List Value, rdCells w97 ((a104.add (Int.toNat n96 * 21)).add 1) 0 17 = some l105 ∧
                ∃ b106 : Bool, AggEq Try.prog Ty.api_Addr l101.toArray l105.toArray b106 ∧
                (
                  b106 = true → ∃ a107 : Addr, s3.a = some a107 ∧ ((0 : Int) ≤ n35 ∧ n35 < ((s3.len : Nat) : Int)) ∧
                  ¬ False ∧ ∃ s108 : Sl, w97.cell? ((a107.add (Int.toNat n35 * 23)).add 22) = some (.slice s108.a s108.len s108.cap) ∧
                  ∃ a109 : Addr, s108.a = some a109 ∧ ((0 : Int) ≤ n93 ∧ n93 < ((s108.len : Nat) : Int)) ∧
                  ¬ False ∧ ∃ n110 : Int, w97.cell? ((a109.add (Int.toNat n93 * 21)).add 18) = some (.int .u16 n110) ∧
                  ∃ a111 : Addr, s6.a = some a111 ∧ ((0 : Int) ≤ n38 ∧ n38 < ((s6.len : Nat) : Int)) ∧
                  ¬ False ∧ ∃ s112 : Sl, w97.cell? ((a111.add (Int.toNat n38 * 23)).add 22) = some (.slice s112.a s112.len s112.cap) ∧
                  ∃ a113 : Addr, s112.a = some a113 ∧ ((0 : Int) ≤ n96 ∧ n96 < ((s112.len : Nat) : Int)) ∧
                  ¬ False ∧ ∃ n114 : Int, w97.cell? ((a113.add (Int.toNat n96 * 21)).add 18) = some (.int .u16 n114) ∧
                  (((n110 : Int) == n114) = true → Q (.bool false) w97) ∧ (((n110 : Int) == n114) = false → k26 w97))
                ∧ (b106 = false → (false = true → Q (.bool false) w97) ∧ (false = false → k26 w97)))
              ∧ (
                (decide ((n96 : Int) ≥ 0)) = false → (false = true → Q (.bool false) w97) ∧
                (false = false → k26 w97))
              )
            ∧ (
              (decide ((n93 : Int) ≥ 0)) = false → (false = true → Q (.bool false) w97) ∧
              (false = false → k26 w97))
            )
          )
        )
      (
        fun  (w115 : World) => I22 (IntKind.wrap .i64 (n24 + 1)) w115 ∧ μ23 (IntKind.wrap .i64 (n24 + 1)) w115 < μ23 n24 w25)
      )
    ∧ (
      (decide ((n24 : Int) < ((s15.len : Nat) : Int))) = false → Calls Try.prog F.law39_lives #[] w25 fun e117 w116 =>
      ∃ b118 : Bool, e117 = .returned (.bool b118) ∧ Q (.bool b118) w116)
    )
def A.law39_ConfNoMore : AT := (.seq (.reg []) (.seq (.reg []) (.seq (.reg []) (.seq (.seq (.reg []) (.cond (.seq (.reg []) .leaf) .leaf)) (.seq (.reg []) (.seq (.seq (.reg []) (.blk (.loop [(9, (.int .i64))] [0, 1, 5, 7, 8] (.seq (.seq (.reg []) (.cond .leaf .leaf)) (.seq (.jk [] [0, 1, 5, 7, 8, 9] (.blk (.seq (.drw 13 true ⟨[0, 0, 0, 6, 8, 16, 33, 0, 0, 0, 768, 1024, 2048, 4288, 8319, 32767], [0, 0, 0, 6, 8, 16, 33, 0, 0, 0, 768, 1024, 2048, 4224, 64, 8192]⟩ [8796093022208, 17592186044416, 35184372088832, 70368744177664, 140737488355328, 281474976710656, 562949953421312, 1125899906842624, 2251799813685248, 4503599627370496, 9007199254740992, 18014398509481984, 36028797018963968, 72057594037927936, 1024, 2048] [128, 32, 512, 52776558133248, 70368744177664, 140737488355328, 290271069732864, 256, 32, 512, 6755399441055744, 9007199254740992, 18014398509481984, 37154696925806592, 562949953421312, 72057594037927936] (.take 0 (.take 1 (.take 2 (.take 3 (.take 4 (.take 5 (.take 7 (.take 8 (.take 9 (.take 10 (.take 11 (.take 12 (.eff 6 (.tail [.run, .run, .run]))))))))))))))) (.seq (.jk [] [0, 1, 5, 7, 8, 9, 10, 11] (.seq (.reg [.run, .run, .run, .run, .run, .run, .run, .pure 2, .run, .run, .run, .pure 2]) (.cond (.seq (.drw 11 true ⟨[0, 0, 3, 4, 0, 0, 48, 64, 0, 0, 783, 2047], [0, 0, 3, 4, 0, 0, 48, 64, 0, 0, 264, 640]⟩ [2361183241434822606848, 4722366482869645213696, 9444732965739290427392, 18889465931478580854784, 37778931862957161709568, 75557863725914323419136, 151115727451828646838272, 302231454903657293676544, 4096, 8192, 0, 0] [1, 1024, 7083549724304467820544, 9444732965739290427392, 2, 2048, 113336795588871485128704, 151115727451828646838272, 0, 0, 18889465931478580858880, 302231454903657293684736] (.take 0 (.take 1 (.take 2 (.take 3 (.take 4 (.take 5 (.take 6 (.take 7 (.two 8 (.eff 9 (.eff 10 (.tail [.run]))) 9 (.eff 8 (.eff 10 (.tail [.run]))))))))))))) (.seq (.reg []) (.seq (.reg []) (.cond (.seq (.reg []) .leaf) .leaf)))) .leaf))) (.seq (.seq (.reg [.run, .run, .run, .run, .run, .run, .run, .pure 2, .run, .run, .run, .pure 2]) (.cond .leaf .leaf)) (.seq (.drw 19 true ⟨[0, 0, 3, 4, 0, 0, 48, 64, 128, 264, 0, 0, 3072, 4096, 0, 0, 49152, 65536, 131072, 270848, 525311, 2097151], [0, 0, 3, 4, 0, 0, 48, 64, 128, 264, 0, 0, 3072, 4096, 0, 0, 49152, 65536, 131072, 270336, 512, 524288]⟩ [1267650600228229401496703205376, 2535301200456458802993406410752, 5070602400912917605986812821504, 10141204801825835211973625643008, 20282409603651670423947251286016, 40564819207303340847894502572032, 81129638414606681695789005144064, 162259276829213363391578010288128, 324518553658426726783156020576256, 649037107316853453566312041152512, 1298074214633706907132624082305024, 2596148429267413814265248164610048, 5192296858534827628530496329220096, 10384593717069655257060992658440192, 20769187434139310514121985316880384, 41538374868278621028243970633760768, 83076749736557242056487941267521536, 166153499473114484112975882535043072, 332306998946228968225951765070086144, 664613997892457936451903530140172288, 16384, 32768] [1, 1024, 3802951800684688204490109616128, 5070602400912917605986812821504, 32, 512, 60847228810955011271841753858048, 81129638414606681695789005144064, 162259276829213363391578010288128, 334659758460252561995129646219264, 2, 2048, 3894222643901120721397872246915072, 5192296858534827628530496329220096, 32, 512, 62307562302417931542365955950641152, 83076749736557242056487941267521536, 166153499473114484112975882535043072, 342691592663298623483012757728526336, 649037107316853453566312041152512, 664613997892457936451903530140172288] (.take 0 (.take 1 (.take 2 (.take 3 (.take 4 (.take 5 (.take 6 (.take 7 (.take 8 (.take 10 (.take 11 (.take 12 (.take 13 (.take 14 (.take 15 (.take 16 (.take 17 (.take 18 (.eff 9 (.tail [.run, .run, .run]))))))))))))))))))))) (.seq (.drw 46 false ⟨[0, 1, 2, 4, 12, 20, 36, 64, 64, 448, 576, 1088, 64, 6208, 8256, 16448, 64, 64, 196672, 262208, 524352, 64, 3145792, 4194368, 8388672, 16810048, 33554496, 67108928, 134217728, 134217728, 939524096, 1207959552, 2281701376, 134217728, 13019119616, 17314086912, 34493956096, 134217728, 134217728, 412451078144, 549890031616, 1099645845504, 134217728, 6597203984384, 8796227239936, 17592320262144, 35253225783296, 70368878395392], [0, 1, 2, 4, 12, 20, 32, 64, 64, 448, 576, 1088, 64, 6208, 8256, 16448, 64, 64, 196672, 262208, 524352, 64, 3145792, 4194368, 8388672, 16810048, 33554496, 67108864, 134217728, 134217728, 939524096, 1207959552, 2281701376, 134217728, 13019119616, 17314086912, 34493956096, 134217728, 134217728, 412451078144, 549890031616, 1099645845504, 134217728, 6597203984384, 8796227239936, 17592320262144, 35253225783296, 70368878395392]⟩ [1329227995784915872903807060280344576, 2658455991569831745807614120560689152, 5316911983139663491615228241121378304, 10633823966279326983230456482242756608, 21267647932558653966460912964485513216, 42535295865117307932921825928971026432, 85070591730234615865843651857942052864, 170141183460469231731687303715884105728, 340282366920938463463374607431768211456, 680564733841876926926749214863536422912, 1361129467683753853853498429727072845824, 2722258935367507707706996859454145691648, 5444517870735015415413993718908291383296, 10889035741470030830827987437816582766592, 21778071482940061661655974875633165533184, 43556142965880123323311949751266331066368, 87112285931760246646623899502532662132736, 174224571863520493293247799005065324265472, 348449143727040986586495598010130648530944, 696898287454081973172991196020261297061888, 1393796574908163946345982392040522594123776, 2787593149816327892691964784081045188247552, 5575186299632655785383929568162090376495104, 11150372599265311570767859136324180752990208, 22300745198530623141535718272648361505980416, 44601490397061246283071436545296723011960832, 89202980794122492566142873090593446023921664, 178405961588244985132285746181186892047843328, 356811923176489970264571492362373784095686656, 713623846352979940529142984724747568191373312, 1427247692705959881058285969449495136382746624, 2854495385411919762116571938898990272765493248, 5708990770823839524233143877797980545530986496, 11417981541647679048466287755595961091061972992, 22835963083295358096932575511191922182123945984, 45671926166590716193865151022383844364247891968, 91343852333181432387730302044767688728495783936, 182687704666362864775460604089535377456991567872, 365375409332725729550921208179070754913983135744, 730750818665451459101842416358141509827966271488, 1461501637330902918203684832716283019655932542976, 2923003274661805836407369665432566039311865085952, 5846006549323611672814739330865132078623730171904, 11692013098647223345629478661730264157247460343808, 23384026197294446691258957323460528314494920687616, 46768052394588893382517914646921056628989841375232, 93536104789177786765035829293842113257979682750464, 187072209578355573530071658587684226515959365500928] [16384, 1329227995784915872903807060280344576, 2658455991569831745807614120560689152, 5316911983139663491615228241121411072, 15950735949418990474845684723364134912, 26584559915698317458076141205606891520, 42535295865117307932921825928971026432, 85070591730234615865843651857942052865, 85070591730234615865843651857942053888, 595494142111642311060905563005594370048, 765635325572111542792592866721478475776, 1446200059413988469719342081585014898688, 85070591730234615865843651857942069248, 8251847397832757738986834230220379127808, 10974106333200265446693831089674524819456, 21863142074670296277521818527491107586048, 85070591730234615865843651857942052866, 85070591730234615865843651857942054912, 261421928387010974555737542159455928451072, 348534214318771221202361441661988590583808, 696983358045812207788857039672119239114752, 85070591730234615865843651857942085632, 4181474795316222073653813019773425724424192, 5575271370224386019999795411813948318547968, 11150457669857041805383724979976038695043072, 22344386412088233499474896066051485779099648, 44601575467652976517687302388948580954013696, 89202980794122492566142873090593446023921664, 178405961588244985132285746181186892047843329, 178405961588244985132285746181186892047844352, 1248841731117714895926000223268308244334903296, 1605653654294204866190571715630682028430589952, 3032901347000164747248857685080177164813336576, 178405961588244985132285746181186892047859712, 17305378274059763557831717379575128528640802816, 23014369044883603082064861257373109074171789312, 45850332128178961178997436768565031256295735296, 178405961588244985132285746181186892047843330, 178405961588244985132285746181186892047845376, 548241519960676839311514098014787319263022546944, 730929224627039704086974702104322696720014114816, 1461680043292491163188817118462464206547980386304, 178405961588244985132285746181186892047876096, 8769188229947005754207241282043879304827643101184, 11692191504608811590614610947476445344139508187136, 23384204603256034936244089609206709501386968530944, 46859574652883663059890777234712005504610385002496, 93536283195139375010020961579588294444871730593792] (.take 0 (.take 1 (.take 2 (.sp 122 (.take 3 (.take 4 (.take 5 (.take 6 (.sp 126 (.take 7 (.take 8 (.take 9 (.take 10 (.take 11 (.take 12 (.take 13 (.take 14 (.take 15 (.take 16 (.take 17 (.take 18 (.take 19 (.take 20 (.take 21 (.take 22 (.take 23 (.take 24 (.take 25 (.take 26 (.take 27 (.sp 147 (.take 28 (.take 29 (.take 30 (.take 31 (.take 32 (.take 33 (.take 34 (.take 35 (.take 36 (.take 37 (.take 38 (.take 39 (.take 40 (.take 41 (.take 42 (.take 43 (.take 44 (.take 45 (.tail [.run, .run]))))))))))))))))))) (.take 28 (.take 29 (.take 30 (.take 31 (.take 32 (.take 33 (.take 34 (.take 35 (.take 36 (.take 37 (.take 38 (.take 39 (.take 40 (.take 41 (.take 42 (.take 43 (.take 44 (.take 45 (.tail [.run, .run]))))))))))))))))))))))))))))))))))))))))) (.take 7 (.take 8 (.take 9 (.take 10 (.take 11 (.take 12 (.take 13 (.take 14 (.take 15 (.take 16 (.take 17 (.take 18 (.take 19 (.take 20 (.take 21 (.take 22 (.take 23 (.take 24 (.take 25 (.take 26 (.take 27 (.take 28 (.take 29 (.take 30 (.take 31 (.take 32 (.take 33 (.take 34 (.take 35 (.take 36 (.take 37 (.take 38 (.take 39 (.take 40 (.take 41 (.take 42 (.take 43 (.take 44 (.take 45 (.tail [.run, .run]))))))))))))))))))))))))))))))))))))))))))))) (.take 3 (.take 4 (.take 5 (.take 6 (.take 7 (.take 8 (.take 9 (.take 10 (.take 11 (.take 12 (.take 13 (.take 14 (.take 15 (.take 16 (.take 17 (.take 18 (.take 19 (.take 20 (.take 21 (.take 22 (.take 23 (.take 24 (.take 25 (.take 26 (.take 27 (.take 28 (.take 29 (.take 30 (.take 31 (.take 32 (.take 33 (.take 34 (.take 35 (.take 36 (.take 37 (.take 38 (.take 39 (.take 40 (.take 41 (.take 42 (.take 43 (.take 44 (.take 45 (.tail [.run, .run]))))))))))))))))))))))))))))))))))))))))))))))))) (.cond (.seq (.reg []) .leaf) .leaf)))))))) (.reg [])))))) (.seq (.reg []) .leaf)))))))
theorem W.law39_ConfNoMore_eq (a : Sl) (b : Sl) (w : World) (Q : Value → World → Prop) : W.law39_ConfNoMore a b w Q = DF Try.prog tk A.law39_ConfNoMore Try.f4 [.slice a.a a.len a.cap, .slice b.a b.len b.cap] w Q := by kernel_rfl
theorem W.law39_ConfNoMore_ok (a : Sl) (b : Sl) (w : World) (Q : Value → World → Prop) (h : W.law39_ConfNoMore a b w Q) : Calls Try.prog F.law39_ConfNoMore #[.slice a.a a.len a.cap, .slice b.a b.len b.cap] w fun e w1 => ∃ v, e = .returned v ∧ Q v w1 :=
  calls_of_DF hmix Try.func4 (by kernel_rfl) (Eq.mp (W.law39_ConfNoMore_eq a b w Q) h)

/-- stanchion/stanchionlaw39.ConfOf -/
def W.law39_ConfOf (l : Sl) (w : World) (Q : Value → World → Prop) : Prop :=
  Calls Try.prog F.farm_New #[] w fun e2 w1 => ∃ p3 : Option Addr, e2 = .returned (.pointer p3) ∧
  Nx (w1.alloc (.cells #[.slice none 0 0] Ty.ref20_Farm)) fun w4 => ∃ (I5 : Int → World → Prop) (μ6 : Int → World → Nat), I5 0 w4 ∧
  ∀ (n7 : Int) (w8 : World), I5 n7 w8 → (
    ((decide ((n7 : Int) < ((l.len : Nat) : Int))) && (decide ((n7 : Int) < 50))) = true →
    ∃ a9 : Addr, l.a = some a9 ∧ ((0 : Int) ≤ n7 ∧ n7 < ((l.len : Nat) : Int)) ∧
    ∃ l10 : List Value, rdCells w8 (a9.add (Int.toNat n7 * 48)) 0 48 = some l10 ∧
    Calls Try.prog F.law20_Do #[.pointer p3, .pointer (some ⟨w1.heap.size, 0, none⟩), .agg l10.toArray] w8 fun e12 w11 =>
    ∃ b13 : Bool, e12 = .returned (.bool b13) ∧ ((!b13) = true → Q (.bool false) w11) ∧
    (
      (!b13) = false → I5 (IntKind.wrap .i64 (n7 + 1)) w11 ∧ μ6 (IntKind.wrap .i64 (n7 + 1)) w11 < μ6 n7 w8)
    )
  ∧ (
    ((decide ((n7 : Int) < ((l.len : Nat) : Int))) && (decide ((n7 : Int) < 50))) = false →
    Calls Try.prog F.conf_Of #[.pointer p3] w8 fun e15 w14 => ∃ s16 : Sl, e15 = .returned (.slice s16.a s16.len s16.cap) ∧
    Calls Try.prog F.farm_New #[] w14 fun e18 w17 => ∃ p19 : Option Addr, e18 = .returned (.pointer p19) ∧
    Calls Try.prog F.law39_Few #[.slice s16.a s16.len s16.cap] w17 fun e21 w20 =>
    ∃ s22 : Sl, e21 = .returned (.slice s22.a s22.len s22.cap) ∧ Calls Try.prog F.conf_Steps #[.slice s22.a s22.len s22.cap] w20 fun e24 w23 =>
    ∃ s25 : Sl, ∃ n26 : Int, e24 = .returned (.tuple #[.slice s25.a s25.len s25.cap, .int .i64 n26]) ∧
    Calls Try.prog F.conf_Apply #[.pointer p19, .slice s25.a s25.len s25.cap] w23 fun e28 w27 =>
    ∃ n29 : Int, ∃ n30 : Int, e28 = .returned (.tuple #[.int .i64 n29, .int .i64 n30]) ∧
    Nx (w27.drew) fun w31 => ∃ W32 : Nat → Prop, ∃ a33 : Addr, (some ⟨w1.heap.size, 0, none⟩ : Option Addr) = some a33 ∧
    ¬ W32 a33.block ∧ ∃ s34 : Sl, w31.cell? a33 = some (.slice s34.a s34.len s34.cap) ∧
    Calls Try.prog F.ref39_Same #[.slice s16.a s16.len s16.cap, .slice s34.a s34.len s34.cap] w31 fun e36 w35 =>
    ∃ b37 : Bool, e36 = .returned (.bool b37) ∧ ∃ W38 : Nat → Prop, (
      b37 = true → Calls Try.prog F.law39_Few #[.slice s16.a s16.len s16.cap] w35 fun e40 w39 =>
      ∃ s41 : Sl, e40 = .returned (.slice s41.a s41.len s41.cap) ∧ Chg W38 w35 w39 ∧
      Calls Try.prog F.conf_Good #[.slice s41.a s41.len s41.cap] w39 fun e43 w42 =>
      ∃ b44 : Bool, e43 = .returned (.bool b44) ∧ Chg W38 w39 w42 ∧ (
        b44 = true → (
          ((n26 : Int) == 0) = true → (
            ((n29 : Int) == ((s25.len : Nat) : Int)) = true → (
              ((n30 : Int) == 0) = true → ∃ a45 : Addr, (some ⟨w1.heap.size, 0, none⟩ : Option Addr) = some a45 ∧
              ¬ W38 a45.block ∧ ∃ s46 : Sl, w42.cell? a45 = some (.slice s46.a s46.len s46.cap) ∧
              Calls Try.prog F.conf_Of #[.pointer p19] w42 fun e48 w47 => ∃ s49 : Sl, e48 = .returned (.slice s49.a s49.len s49.cap) ∧
              Chg W38 w42 w47 ∧ Calls Try.prog F.ref39_Same #[.slice s49.a s49.len s49.cap, .slice s46.a s46.len s46.cap] w47 fun e51 w50 =>
              ∃ b52 : Bool, e51 = .returned (.bool b52) ∧ Jn (
                fun k53 : Bool → World → Prop => (
                  b52 = true → Calls Try.prog F.law39_lives #[] w50 fun e55 w54 => ∃ b56 : Bool, e55 = .returned (.bool b56) ∧
                  k53 b56 w54)
                ∧ (b52 = false → k53 false w50))
              (fun (b57 : Bool) (w58 : World) => Q (.bool b57) w58))
            ∧ (
              ((n30 : Int) == 0) = false → Jn (
                fun k59 : Bool → World → Prop => (
                  false = true → Calls Try.prog F.law39_lives #[] w42 fun e61 w60 => ∃ b62 : Bool, e61 = .returned (.bool b62) ∧
                  k59 b62 w60)
                ∧ (false = false → k59 false w42))
              (fun (b63 : Bool) (w64 : World) => Q (.bool b63) w64))
            )
          ∧ (
            ((n29 : Int) == ((s25.len : Nat) : Int)) = false → Jn (
              fun k65 : Bool → World → Prop => (
                false = true → Calls Try.prog F.law39_lives #[] w42 fun e67 w66 => ∃ b68 : Bool, e67 = .returned (.bool b68) ∧
                k65 b68 w66)
              ∧ (false = false → k65 false w42))
            (fun (b69 : Bool) (w70 : World) => Q (.bool b69) w70))
          )
        ∧ (
          ((n26 : Int) == 0) = false → Jn (
            fun k71 : Bool → World → Prop => (
              false = true → Calls Try.prog F.law39_lives #[] w42 fun e73 w72 => ∃ b74 : Bool, e73 = .returned (.bool b74) ∧
              k71 b74 w72)
            ∧ (false = false → k71 false w42))
          (fun (b75 : Bool) (w76 : World) => Q (.bool b75) w76))
        )
      ∧ (
        b44 = false → Jn (
          fun k77 : Bool → World → Prop => (
            false = true → Calls Try.prog F.law39_lives #[] w42 fun e79 w78 => ∃ b80 : Bool, e79 = .returned (.bool b80) ∧
            k77 b80 w78)
          ∧ (false = false → k77 false w42))
        (fun (b81 : Bool) (w82 : World) => Q (.bool b81) w82))
      )
    ∧ (
      b37 = false → Jn (
        fun k83 : Bool → World → Prop => (
          false = true → Calls Try.prog F.law39_lives #[] w35 fun e85 w84 => ∃ b86 : Bool, e85 = .returned (.bool b86) ∧
          k83 b86 w84)
        ∧ (false = false → k83 false w35))
      (fun (b87 : Bool) (w88 : World) => Q (.bool b87) w88))
    )
def A.law39_ConfOf : AT := (.seq (.reg []) (.seq (.reg []) (.seq (.seq (.reg []) (.blk (.loop [(5, (.int .i64))] [0, 3, 4] (.seq (.seq (.reg [.run, .run, .run, .run, .run, .pure 2]) (.cond .leaf .leaf)) (.seq (.blk (.seq (.reg []) (.cond (.seq (.reg []) .leaf) .leaf))) (.reg [])))))) (.seq (.reg []) (.seq (.reg []) (.seq (.reg []) (.seq (.drw 32 true ⟨[0, 0, 2, 4, 8, 17, 32, 64, 192, 320, 576, 1536, 2048, 6144, 10240, 18432, 32768, 32768, 163840, 360448, 557056, 1081344, 2097152, 6291456, 10485760, 18874368, 33554432, 100663296, 33554432, 301989888, 570425344, 1107296256, 2315255808, 4328521728, 12884901888, 17179869184, 51539607552, 137438953471], [0, 0, 2, 4, 8, 17, 32, 64, 192, 320, 576, 1024, 2048, 6144, 10240, 16384, 32768, 32768, 163840, 360448, 557056, 1048576, 2097152, 6291456, 10485760, 16777216, 33554432, 100663296, 33554432, 301989888, 570425344, 1107296256, 2315255808, 4328521728, 8589934592, 17179869184, 51539607552, 68719476736]⟩ [281474976710656, 562949953421312, 1125899906842624, 2251799813685248, 4503599627370496, 9007199254740992, 18014398509481984, 36028797018963968, 72057594037927936, 144115188075855872, 288230376151711744, 576460752303423488, 1152921504606846976, 2305843009213693952, 4611686018427387904, 9223372036854775808, 18446744073709551616, 36893488147419103232, 73786976294838206464, 147573952589676412928, 295147905179352825856, 590295810358705651712, 1180591620717411303424, 2361183241434822606848, 4722366482869645213696, 9444732965739290427392, 18889465931478580854784, 37778931862957161709568, 75557863725914323419136, 151115727451828646838272, 302231454903657293676544, 604462909807314587353088, 1208925819614629174706176, 2417851639229258349412352, 4835703278458516698824704, 9671406556917033397649408, 19342813113834066795298816, 4] [64, 16, 562949953421312, 1125899906842624, 2251799813685248, 4785074604081152, 9007199254740992, 18014398509482048, 54043195528445952, 90071992547409920, 162129586585337856, 288230376151711744, 576460752303424000, 1729382256910270464, 2882303761517117440, 4611686018427387904, 9223372036854776832, 9223372036854776064, 46116860184273879040, 101457092405402533888, 156797324626531188736, 295147905179352825856, 590295810358705653760, 1770887431076116955136, 2951479051793528258560, 4722366482869645213696, 9444732965739290427520, 28334198897217871282176, 9444732965739290427408, 85002596691653613846528, 160560460417567937265664, 311676187869396584103936, 651686574636011039490048, 1218370552580368465133568, 2417851639229258349412352, 4835703278458516698824704, 14507109835375550096474112, 19342813113834066795298816] (.take 0 (.take 1 (.take 2 (.take 3 (.take 4 (.out 5 true (.take 6 (.sp 54 (.take 7 (.eff 8 (.eff 9 (.take 10 (.take 11 (.sp 59 (.take 12 (.take 13 (.take 14 (.take 15 (.sp 63 (.take 16 (.take 17 (.take 18 (.take 19 (.take 20 (.take 21 (.sp 69 (.take 22 (.take 23 (.take 24 (.take 25 (.sp 73 (.take 26 (.take 28 (.take 29 (.take 30 (.take 31 (.eff 27 (.tail [.run, .run, .run, .split 1, .run, .run]))))))) (.take 26 (.take 27 (.take 28 (.take 29 (.take 30 (.take 31 (.tail [.run, .run, .run, .split 1, .run, .run])))))))))))) (.take 22 (.take 23 (.take 24 (.take 25 (.take 26 (.take 27 (.take 28 (.take 29 (.take 30 (.take 31 (.tail [.run, .run, .run, .split 1, .run, .run])))))))))))))))))) (.take 16 (.take 17 (.take 18 (.take 19 (.take 20 (.take 21 (.take 22 (.take 23 (.take 24 (.take 25 (.take 26 (.take 27 (.take 28 (.take 29 (.take 30 (.take 31 (.tail [.run, .run, .run, .split 1, .run, .run])))))))))))))))))))))) (.take 12 (.take 13 (.take 14 (.take 15 (.take 16 (.take 17 (.take 18 (.take 19 (.take 20 (.take 21 (.take 22 (.take 23 (.take 24 (.take 25 (.take 26 (.take 27 (.take 28 (.take 29 (.take 30 (.take 31 (.tail [.run, .run, .run, .split 1, .run, .run]))))))))))))))))))))))))))) (.take 7 (.take 8 (.take 9 (.take 10 (.take 11 (.take 12 (.take 13 (.take 14 (.take 15 (.take 16 (.take 17 (.take 18 (.take 19 (.take 20 (.take 21 (.take 22 (.take 23 (.take 24 (.take 25 (.take 26 (.take 27 (.take 28 (.take 29 (.take 30 (.take 31 (.tail [.run, .run, .run, .split 1, .run, .run]))))))))))))))))))))))))))))))))))) .leaf)))))))
theorem W.law39_ConfOf_eq (l : Sl) (w : World) (Q : Value → World → Prop) : W.law39_ConfOf l w Q = DF Try.prog tk A.law39_ConfOf Try.f5 [.slice l.a l.len l.cap] w Q := by kernel_rfl
theorem W.law39_ConfOf_ok (l : Sl) (w : World) (Q : Value → World → Prop) (h : W.law39_ConfOf l w Q) : Calls Try.prog F.law39_ConfOf #[.slice l.a l.len l.cap] w fun e w1 => ∃ v, e = .returned v ∧ Q v w1 :=
  calls_of_DF hmix Try.func5 (by kernel_rfl) (Eq.mp (W.law39_ConfOf_eq l w Q) h)

/-- stanchion/stanchionlaw39.Few -/
def W.law39_Few (l : Sl) (w : World) (Q : Value → World → Prop) : Prop :=
  ∃ s1 : Sl, ∃ w2 : World, Sem.run Try.prog (Instr.buildSlice Ty.Sl_api_Service 0 #[]) w = .ok (.slice s1.a s1.len s1.cap) w2 ∧
  ∃ (I3 : Sl → Int → World → Prop) (μ4 : Sl → Int → World → Nat), I3 s1 0 w2 ∧
  ∀ (s5 : Sl) (n6 : Int) (w7 : World), I3 s5 n6 w7 → (
    ((decide ((n6 : Int) < ((l.len : Nat) : Int))) && (decide ((n6 : Int) < 10))) = true →
    ∃ a8 : Addr, l.a = some a8 ∧ ((0 : Int) ≤ n6 ∧ n6 < ((l.len : Nat) : Int)) ∧
    ∃ l9 : List Value, rdCells w7 (a8.add (Int.toNat n6 * 23)) 0 23 = some l9 ∧
    Nx (
      w7.alloc (
        .cells #[.int .i64 0, .bool false, .int .u8 0, .int .u8 0, .int .u8 0, .int .u8 0, .int .u8 0, .int .u8 0, .int .u8 0, .int .u8 0, .int .u8 0, .int .u8 0, .int .u8 0, .int .u8 0, .int .u8 0, .int .u8 0, .int .u8 0, .int .u8 0, .int .u16 0, .int .u8 0, .int .i64 0, .int .u64 0, .slice none 0 0] Ty.api_Service)
      )
    fun w10 => StoreOk w10 ⟨w7.heap.size, 0, none⟩ (Array.toList l9.toArray) ∧
    Array.size l9.toArray = 23 ∧ Nx (setCells w10 ⟨w7.heap.size, 0, none⟩ 0 (Array.toList l9.toArray)) fun w11 =>
    Jn (
      fun k12 : World → Prop => ∃ s13 : Sl, w11.cell? (Addr.add ⟨w7.heap.size, 0, none⟩ 22) = some (.slice s13.a s13.len s13.cap) ∧
      (
        (decide ((((s13.len : Nat) : Int) : Int) > 18)) = true → ∃ s14 : Sl, w11.cell? (Addr.add ⟨w7.heap.size, 0, none⟩ 22) = some (.slice s14.a s14.len s14.cap) ∧
        ((0 : Int) ≤ 18 ∧ 18 ≤ ((s14.cap : Nat) : Int)) ∧ (∃ u : Value, w11.cell? (Addr.add ⟨w7.heap.size, 0, none⟩ 22) = some u) ∧
        w11.frozen? (Addr.add ⟨w7.heap.size, 0, none⟩ 22) = false ∧ Nx (
          w11.setCell (Addr.add ⟨w7.heap.size, 0, none⟩ 22) (.slice (cutA s14.a 21 0 s14.cap) ((Int.toNat 18) - 0) (s14.cap - 0)))
        fun w15 => k12 w15)
      ∧ ((decide ((((s13.len : Nat) : Int) : Int) > 18)) = false → k12 w11))
    (
      fun  (w16 : World) => ∃ s17 : Sl, ∃ w18 : World, Sem.run Try.prog (Instr.buildSlice Ty.Sl_api_Backend 0 #[]) w16 = .ok (.slice s17.a s17.len s17.cap) w18 ∧
      ∃ s19 : Sl, w18.cell? (Addr.add ⟨w7.heap.size, 0, none⟩ 22) = some (.slice s19.a s19.len s19.cap) ∧
      ∃ s20 : Sl, ∃ w21 : World, Sem.run Try.prog (
        Builtin.append_ #[Ty.Sl_api_Backend, Ty.Sl_api_Backend] Ty.Sl_api_Backend #[.slice s17.a s17.len s17.cap, .slice s19.a s19.len s19.cap])
      w18 = .ok (.slice s20.a s20.len s20.cap) w21 ∧ (∃ u : Value, w21.cell? (Addr.add ⟨w7.heap.size, 0, none⟩ 22) = some u) ∧
      w21.frozen? (Addr.add ⟨w7.heap.size, 0, none⟩ 22) = false ∧ Nx (w21.setCell (Addr.add ⟨w7.heap.size, 0, none⟩ 22) (.slice s20.a s20.len s20.cap)) fun w22 =>
      ∃ l23 : List Value, rdCells w22 ⟨w7.heap.size, 0, none⟩ 0 23 = some l23 ∧
      ∃ s24 : Sl, ∃ w25 : World, Sem.run Try.prog (Instr.buildSlice Ty.Sl_api_Service 1 #[(0, .agg l23.toArray)]) w22 = .ok (.slice s24.a s24.len s24.cap) w25 ∧
      ∃ s26 : Sl, ∃ w27 : World, Sem.run Try.prog (
        Builtin.append_ #[Ty.Sl_api_Service, Ty.Sl_api_Service] Ty.Sl_api_Service #[.slice s5.a s5.len s5.cap, .slice s24.a s24.len s24.cap])
      w25 = .ok (.slice s26.a s26.len s26.cap) w27 ∧ I3 s26 (IntKind.wrap .i64 (n6 + 1)) w27 ∧
      μ4 s26 (IntKind.wrap .i64 (n6 + 1)) w27 < μ4 s5 n6 w7)
    )
  ∧ (
    ((decide ((n6 : Int) < ((l.len : Nat) : Int))) && (decide ((n6 : Int) < 10))) = false →
    Q (.slice s5.a s5.len s5.cap) w7)
def A.law39_Few : AT := (.seq (.reg []) (.seq (.reg []) (.seq (.seq (.reg []) (.blk (.loop [(3, .slice), (4, (.int .i64))] [0] (.seq (.seq (.reg [.run, .run, .run, .run, .run, .pure 2]) (.cond .leaf .leaf)) (.seq (.blk (.seq (.reg []) (.seq (.jk [] [0, 3, 4, 5] (.seq (.reg []) (.cond (.reg []) .leaf))) (.seq (.reg []) (.reg []))))) (.reg [])))))) (.seq (.reg []) .leaf))))
theorem W.law39_Few_eq (l : Sl) (w : World) (Q : Value → World → Prop) : W.law39_Few l w Q = DF Try.prog tk A.law39_Few Try.f6 [.slice l.a l.len l.cap] w Q := by kernel_rfl
theorem W.law39_Few_ok (l : Sl) (w : World) (Q : Value → World → Prop) (h : W.law39_Few l w Q) : Calls Try.prog F.law39_Few #[.slice l.a l.len l.cap] w fun e w1 => ∃ v, e = .returned v ∧ Q v w1 :=
  calls_of_DF hmix Try.func6 (by kernel_rfl) (Eq.mp (W.law39_Few_eq l w Q) h)

/-- stanchion/stanchionlaw39.lives -/
def W.law39_lives  (w : World) (Q : Value → World → Prop) : Prop :=
  Calls Try.prog F.farm_New #[] w fun e2 w1 => ∃ p3 : Option Addr, e2 = .returned (.pointer p3) ∧
  ∃ c4 : Array Value, Sem.run Try.prog (Instr.build Ty.api_Backend #[(0, .int .i64 1), (2, .int .u16 8080)]) w1 = .ok (.agg c4) w1 ∧
  ∃ s5 : Sl, ∃ w6 : World, Sem.run Try.prog (Instr.buildSlice Ty.Sl_api_Backend 1 #[(0, .agg c4)]) w1 = .ok (.slice s5.a s5.len s5.cap) w6 ∧
  ∃ c7 : Array Value, Sem.run Try.prog (
    Instr.build Ty.api_Service #[(0, .int .i64 7), (2, .int .u16 80), (3, .int .u8 6), (5, .int .u64 1), (6, .slice s5.a s5.len s5.cap)])
  w6 = .ok (.agg c7) w6 ∧ ∃ s8 : Sl, ∃ w9 : World, Sem.run Try.prog (Instr.buildSlice Ty.Sl_api_Service 1 #[(0, .agg c7)]) w6 = .ok (.slice s8.a s8.len s8.cap) w9 ∧
  Calls Try.prog F.conf_Steps #[.slice s8.a s8.len s8.cap] w9 fun e11 w10 =>
  ∃ s12 : Sl, ∃ n13 : Int, e11 = .returned (.tuple #[.slice s12.a s12.len s12.cap, .int .i64 n13]) ∧
  Calls Try.prog F.conf_Apply #[.pointer p3, .slice s12.a s12.len s12.cap] w10 fun e15 w14 =>
  ∃ n16 : Int, ∃ n17 : Int, e15 = .returned (.tuple #[.int .i64 n16, .int .i64 n17]) ∧
  Jn (
    fun k18 : Bool → World → Prop => (
      (
        ((((((s12.len : Nat) : Int) : Int) == 2) && ((n13 : Int) == 0)) && ((n16 : Int) == 2)) && ((n17 : Int) == 0))
      = true → Calls Try.prog F.conf_Of #[.pointer p3] w14 fun e20 w19 => ∃ s21 : Sl, e20 = .returned (.slice s21.a s21.len s21.cap) ∧
      k18 ((((s21.len : Nat) : Int) : Int) == 1) w19)
    ∧ (
      (
        ((((((s12.len : Nat) : Int) : Int) == 2) && ((n13 : Int) == 0)) && ((n16 : Int) == 2)) && ((n17 : Int) == 0))
      = false → k18 false w14)
    )
  (fun (b22 : Bool) (w23 : World) => Q (.bool b22) w23)
def A.law39_lives : AT := (.seq (.reg []) (.seq (.reg []) (.seq (.reg []) (.seq (.reg []) (.seq (.reg [.run, .run, .run, .run, .pure 2, .run, .run, .run, .pure 2, .run, .run, .run, .pure 2, .run, .run, .run, .split 4]) .leaf)))))
theorem W.law39_lives_eq  (w : World) (Q : Value → World → Prop) : W.law39_lives  w Q = DF Try.prog tk A.law39_lives Try.f10 [] w Q := by kernel_rfl
theorem W.law39_lives_ok  (w : World) (Q : Value → World → Prop) (h : W.law39_lives  w Q) : Calls Try.prog F.law39_lives #[] w fun e w1 => ∃ v, e = .returned v ∧ Q v w1 :=
  calls_of_DF hmix Try.func10 (by kernel_rfl) (Eq.mp (W.law39_lives_eq  w Q) h)

/-- stanchion/stanchionlaw20.Do -/
def W.law20_Do (f : Option Addr) (x : Option Addr) (a : Array Value) (w : World) (Q : Value → World → Prop) : Prop :=
  Nx (w.alloc (.cells a Ty.law20_Act)) fun w1 => ∃ l2 : List Value, rdCells w1 ⟨w.heap.size, 0, none⟩ 0 48 = some l2 ∧
  Calls Try.prog F.law20_Few #[.agg l2.toArray] w1 fun e4 w3 => ∃ c5 : Array Value, e4 = .returned (.agg c5) ∧
  StoreOk w3 ⟨w.heap.size, 0, none⟩ (Array.toList c5) ∧ Array.size c5 = 48 ∧
  Nx (setCells w3 ⟨w.heap.size, 0, none⟩ 0 (Array.toList c5)) fun w6 => ∃ n7 : Int, w6.cell? ⟨w.heap.size, 0, none⟩ = some (.int .i64 n7) ∧
  (
    ((n7 : Int) == 1) = true → Nx (w6.drew) fun w8 => ∃ W9 : Nat → Prop, ¬ W9 (Addr.add ⟨w.heap.size, 0, none⟩ 1).block ∧
    ∃ n10 : Int, w8.cell? (Addr.add ⟨w.heap.size, 0, none⟩ 1) = some (.int .i64 n10) ∧
    ¬ W9 (Addr.add ⟨w.heap.size, 0, none⟩ 1).block ∧ ∃ n11 : Int, w8.cell? (Addr.add ⟨w.heap.size, 0, none⟩ 1) = some (.int .i64 n11) ∧
    Calls Try.prog F.farm_Farm_DropService #[.pointer f, .int .i64 n10] w8 fun e13 w12 =>
    ∃ n14 : Int, e13 = .returned (.int .i64 n14) ∧ Chg W9 w8 w12 ∧ Calls Try.prog F.ref20_Farm_DropService #[.pointer x, .int .i64 n11] w12 fun e16 w15 =>
    ∃ n17 : Int, e16 = .returned (.int .i64 n17) ∧ Q (.bool ((n14 : Int) == n17)) w15)
  ∧ (
    ((n7 : Int) == 1) = false → (
      ((n7 : Int) == 2) = true → Nx (w6.drew) fun w18 => ∃ W19 : Nat → Prop, ¬ W19 (Addr.add ⟨w.heap.size, 0, none⟩ 1).block ∧
      ∃ n20 : Int, w18.cell? (Addr.add ⟨w.heap.size, 0, none⟩ 1) = some (.int .i64 n20) ∧
      ¬ W19 (Addr.add ⟨w.heap.size, 0, none⟩ 27).block ∧ ∃ l21 : List Value, rdCells w18 (Addr.add ⟨w.heap.size, 0, none⟩ 27) 0 21 = some l21 ∧
      ¬ W19 (Addr.add ⟨w.heap.size, 0, none⟩ 1).block ∧ ∃ n22 : Int, w18.cell? (Addr.add ⟨w.heap.size, 0, none⟩ 1) = some (.int .i64 n22) ∧
      ¬ W19 (Addr.add ⟨w.heap.size, 0, none⟩ 27).block ∧ ∃ l23 : List Value, rdCells w18 (Addr.add ⟨w.heap.size, 0, none⟩ 27) 0 21 = some l23 ∧
      Calls Try.prog F.farm_Farm_AddBackend #[.pointer f, .int .i64 n20, .agg l21.toArray] w18 fun e25 w24 =>
      ∃ n26 : Int, e25 = .returned (.int .i64 n26) ∧ Chg W19 w18 w24 ∧ Calls Try.prog F.ref20_Farm_AddBackend #[.pointer x, .int .i64 n22, .agg l23.toArray] w24 fun e28 w27 =>
      ∃ n29 : Int, e28 = .returned (.int .i64 n29) ∧ Q (.bool ((n26 : Int) == n29)) w27)
    ∧ (
      ((n7 : Int) == 2) = false → (
        ((n7 : Int) == 3) = true → Nx (w6.drew) fun w30 => ∃ W31 : Nat → Prop, ¬ W31 (Addr.add ⟨w.heap.size, 0, none⟩ 1).block ∧
        ∃ n32 : Int, w30.cell? (Addr.add ⟨w.heap.size, 0, none⟩ 1) = some (.int .i64 n32) ∧
        ¬ W31 (Addr.add ⟨w.heap.size, 0, none⟩ 2).block ∧ ∃ n33 : Int, w30.cell? (Addr.add ⟨w.heap.size, 0, none⟩ 2) = some (.int .i64 n33) ∧
        ¬ W31 (Addr.add ⟨w.heap.size, 0, none⟩ 1).block ∧ ∃ n34 : Int, w30.cell? (Addr.add ⟨w.heap.size, 0, none⟩ 1) = some (.int .i64 n34) ∧
        ¬ W31 (Addr.add ⟨w.heap.size, 0, none⟩ 2).block ∧ ∃ n35 : Int, w30.cell? (Addr.add ⟨w.heap.size, 0, none⟩ 2) = some (.int .i64 n35) ∧
        Calls Try.prog F.farm_Farm_DropBackend #[.pointer f, .int .i64 n32, .int .i64 n33] w30 fun e37 w36 =>
        ∃ n38 : Int, e37 = .returned (.int .i64 n38) ∧ Chg W31 w30 w36 ∧ Calls Try.prog F.ref20_Farm_Turn #[.pointer x, .int .i64 n34, .int .i64 n35, .int .i64 0, .int .i64 0] w36 fun e40 w39 =>
        ∃ n41 : Int, e40 = .returned (.int .i64 n41) ∧ Q (.bool ((n38 : Int) == n41)) w39)
      ∧ (
        ((n7 : Int) == 3) = false → (
          ((n7 : Int) == 4) = true → Nx (w6.drew) fun w42 => ∃ W43 : Nat → Prop, ¬ W43 (Addr.add ⟨w.heap.size, 0, none⟩ 1).block ∧
          ∃ n44 : Int, w42.cell? (Addr.add ⟨w.heap.size, 0, none⟩ 1) = some (.int .i64 n44) ∧
          ¬ W43 (Addr.add ⟨w.heap.size, 0, none⟩ 2).block ∧ ∃ n45 : Int, w42.cell? (Addr.add ⟨w.heap.size, 0, none⟩ 2) = some (.int .i64 n45) ∧
          ¬ W43 (Addr.add ⟨w.heap.size, 0, none⟩ 1).block ∧ ∃ n46 : Int, w42.cell? (Addr.add ⟨w.heap.size, 0, none⟩ 1) = some (.int .i64 n46) ∧
          ¬ W43 (Addr.add ⟨w.heap.size, 0, none⟩ 2).block ∧ ∃ n47 : Int, w42.cell? (Addr.add ⟨w.heap.size, 0, none⟩ 2) = some (.int .i64 n47) ∧
          Calls Try.prog F.farm_Farm_Drain #[.pointer f, .int .i64 n44, .int .i64 n45, .bool true] w42 fun e49 w48 =>
          ∃ n50 : Int, e49 = .returned (.int .i64 n50) ∧ Chg W43 w42 w48 ∧ Calls Try.prog F.ref20_Farm_Turn #[.pointer x, .int .i64 n46, .int .i64 n47, .int .i64 1, .int .i64 0] w48 fun e52 w51 =>
          ∃ n53 : Int, e52 = .returned (.int .i64 n53) ∧ Q (.bool ((n50 : Int) == n53)) w51)
        ∧ (
          ((n7 : Int) == 4) = false → (
            ((n7 : Int) == 5) = true → Nx (w6.drew) fun w54 => ∃ W55 : Nat → Prop, ¬ W55 (Addr.add ⟨w.heap.size, 0, none⟩ 1).block ∧
            ∃ n56 : Int, w54.cell? (Addr.add ⟨w.heap.size, 0, none⟩ 1) = some (.int .i64 n56) ∧
            ¬ W55 (Addr.add ⟨w.heap.size, 0, none⟩ 2).block ∧ ∃ n57 : Int, w54.cell? (Addr.add ⟨w.heap.size, 0, none⟩ 2) = some (.int .i64 n57) ∧
            ¬ W55 (Addr.add ⟨w.heap.size, 0, none⟩ 1).block ∧ ∃ n58 : Int, w54.cell? (Addr.add ⟨w.heap.size, 0, none⟩ 1) = some (.int .i64 n58) ∧
            ¬ W55 (Addr.add ⟨w.heap.size, 0, none⟩ 2).block ∧ ∃ n59 : Int, w54.cell? (Addr.add ⟨w.heap.size, 0, none⟩ 2) = some (.int .i64 n59) ∧
            Calls Try.prog F.farm_Farm_Drain #[.pointer f, .int .i64 n56, .int .i64 n57, .bool false] w54 fun e61 w60 =>
            ∃ n62 : Int, e61 = .returned (.int .i64 n62) ∧ Chg W55 w54 w60 ∧ Calls Try.prog F.ref20_Farm_Turn #[.pointer x, .int .i64 n58, .int .i64 n59, .int .i64 2, .int .i64 0] w60 fun e64 w63 =>
            ∃ n65 : Int, e64 = .returned (.int .i64 n65) ∧ Q (.bool ((n62 : Int) == n65)) w63)
          ∧ (
            ((n7 : Int) == 5) = false → (
              ((n7 : Int) == 6) = true → Nx (w6.drew) fun w66 => ∃ W67 : Nat → Prop, ¬ W67 (Addr.add ⟨w.heap.size, 0, none⟩ 1).block ∧
              ∃ n68 : Int, w66.cell? (Addr.add ⟨w.heap.size, 0, none⟩ 1) = some (.int .i64 n68) ∧
              ¬ W67 (Addr.add ⟨w.heap.size, 0, none⟩ 2).block ∧ ∃ n69 : Int, w66.cell? (Addr.add ⟨w.heap.size, 0, none⟩ 2) = some (.int .i64 n69) ∧
              ¬ W67 (Addr.add ⟨w.heap.size, 0, none⟩ 3).block ∧ ∃ n70 : Int, w66.cell? (Addr.add ⟨w.heap.size, 0, none⟩ 3) = some (.int .i64 n70) ∧
              ¬ W67 (Addr.add ⟨w.heap.size, 0, none⟩ 1).block ∧ ∃ n71 : Int, w66.cell? (Addr.add ⟨w.heap.size, 0, none⟩ 1) = some (.int .i64 n71) ∧
              ¬ W67 (Addr.add ⟨w.heap.size, 0, none⟩ 2).block ∧ ∃ n72 : Int, w66.cell? (Addr.add ⟨w.heap.size, 0, none⟩ 2) = some (.int .i64 n72) ∧
              ¬ W67 (Addr.add ⟨w.heap.size, 0, none⟩ 3).block ∧ ∃ n73 : Int, w66.cell? (Addr.add ⟨w.heap.size, 0, none⟩ 3) = some (.int .i64 n73) ∧
              Calls Try.prog F.farm_Farm_Weigh #[.pointer f, .int .i64 n68, .int .i64 n69, .int .i64 n70] w66 fun e75 w74 =>
              ∃ n76 : Int, e75 = .returned (.int .i64 n76) ∧ Chg W67 w66 w74 ∧ Calls Try.prog F.ref20_Farm_Turn #[.pointer x, .int .i64 n71, .int .i64 n72, .int .i64 3, .int .i64 n73] w74 fun e78 w77 =>
              ∃ n79 : Int, e78 = .returned (.int .i64 n79) ∧ Q (.bool ((n76 : Int) == n79)) w77)
            ∧ (
              ((n7 : Int) == 6) = false → Nx (w6.drew) fun w80 => ∃ W81 : Nat → Prop, ¬ W81 (Addr.add ⟨w.heap.size, 0, none⟩ 4).block ∧
              ∃ l82 : List Value, rdCells w80 (Addr.add ⟨w.heap.size, 0, none⟩ 4) 0 23 = some l82 ∧
              ¬ W81 (Addr.add ⟨w.heap.size, 0, none⟩ 4).block ∧ ∃ l83 : List Value, rdCells w80 (Addr.add ⟨w.heap.size, 0, none⟩ 4) 0 23 = some l83 ∧
              Calls Try.prog F.farm_Farm_AddService #[.pointer f, .agg l82.toArray] w80 fun e85 w84 =>
              ∃ n86 : Int, e85 = .returned (.int .i64 n86) ∧ Chg W81 w80 w84 ∧ Calls Try.prog F.ref20_Farm_AddService #[.pointer x, .agg l83.toArray] w84 fun e88 w87 =>
              ∃ n89 : Int, e88 = .returned (.int .i64 n89) ∧ Q (.bool ((n86 : Int) == n89)) w87)
            )
          )
        )
      )
    )
def A.law20_Do : AT := (.seq (.reg []) (.seq (.reg []) (.seq (.reg []) (.blk (.seq (.reg []) (.cond (.seq (.drw 7 true ⟨[0, 0, 2, 5, 0, 0, 32, 88, 136, 511], [0, 0, 2, 5, 0, 0, 32, 80, 136, 256]⟩ [4194304, 8388608, 16777216, 33554432, 67108864, 134217728, 268435456, 536870912, 1073741824, 64] [1, 32, 8388608, 20971520, 2, 32, 134217728, 335544320, 570425344, 1073741824] (.take 0 (.take 1 (.take 2 (.take 4 (.take 5 (.take 6 (.eff 3 (.tail [.run, .run, .run]))))))))) .leaf) (.seq (.reg []) (.cond (.seq (.drw 11 true ⟨[0, 0, 2, 0, 8, 21, 0, 0, 128, 0, 512, 1376, 2080, 8191], [0, 0, 2, 0, 8, 21, 0, 0, 128, 0, 512, 1344, 2080, 4096]⟩ [8589934592, 17179869184, 34359738368, 68719476736, 137438953472, 274877906944, 549755813888, 1099511627776, 2199023255552, 4398046511104, 8796093022208, 17592186044416, 35184372088832, 64] [1, 32, 17179869184, 32, 68719476736, 180388626432, 2, 32, 1099511627776, 32, 4398046511104, 11544872091648, 17867063951360, 35184372088832] (.take 0 (.take 1 (.take 2 (.take 3 (.take 4 (.take 6 (.take 7 (.take 8 (.take 9 (.take 10 (.eff 5 (.tail [.run, .run, .run]))))))))))))) .leaf) (.seq (.reg []) (.cond (.seq (.drw 11 true ⟨[0, 0, 2, 0, 8, 21, 0, 0, 128, 0, 512, 1376, 2080, 8191], [0, 0, 2, 0, 8, 21, 0, 0, 128, 0, 512, 1344, 2080, 4096]⟩ [281474976710656, 562949953421312, 1125899906842624, 2251799813685248, 4503599627370496, 9007199254740992, 18014398509481984, 36028797018963968, 72057594037927936, 144115188075855872, 288230376151711744, 576460752303423488, 1152921504606846976, 64] [1, 32, 562949953421312, 32, 2251799813685248, 5910974510923776, 2, 32, 36028797018963968, 32, 144115188075855872, 378302368699121664, 585467951558164480, 1152921504606846976] (.take 0 (.take 1 (.take 2 (.take 3 (.take 4 (.take 6 (.take 7 (.take 8 (.take 9 (.take 10 (.eff 5 (.tail [.run, .run, .run]))))))))))))) .leaf) (.seq (.reg []) (.cond (.seq (.drw 11 true ⟨[0, 0, 2, 0, 8, 21, 0, 0, 128, 0, 512, 1376, 2080, 8191], [0, 0, 2, 0, 8, 21, 0, 0, 128, 0, 512, 1344, 2080, 4096]⟩ [9223372036854775808, 18446744073709551616, 36893488147419103232, 73786976294838206464, 147573952589676412928, 295147905179352825856, 590295810358705651712, 1180591620717411303424, 2361183241434822606848, 4722366482869645213696, 9444732965739290427392, 18889465931478580854784, 37778931862957161709568, 64] [1, 32, 18446744073709551616, 32, 73786976294838206464, 193690812773950291968, 2, 32, 1180591620717411303424, 32, 4722366482869645213696, 12396212017532818685952, 19184613836657933680640, 37778931862957161709568] (.take 0 (.take 1 (.take 2 (.take 3 (.take 4 (.take 6 (.take 7 (.take 8 (.take 9 (.take 10 (.eff 5 (.tail [.run, .run, .run]))))))))))))) .leaf) (.seq (.reg []) (.cond (.seq (.drw 11 true ⟨[0, 0, 2, 0, 8, 21, 0, 0, 128, 0, 512, 1376, 2080, 8191], [0, 0, 2, 0, 8, 21, 0, 0, 128, 0, 512, 1344, 2080, 4096]⟩ [302231454903657293676544, 604462909807314587353088, 1208925819614629174706176, 2417851639229258349412352, 4835703278458516698824704, 9671406556917033397649408, 19342813113834066795298816, 38685626227668133590597632, 77371252455336267181195264, 154742504910672534362390528, 309485009821345068724781056, 618970019642690137449562112, 1237940039285380274899124224, 64] [1, 32, 604462909807314587353088, 32, 2417851639229258349412352, 6346860552976803167207424, 2, 32, 38685626227668133590597632, 32, 154742504910672534362390528, 406199075390515402701275136, 628641426199607170847211520, 1237940039285380274899124224] (.take 0 (.take 1 (.take 2 (.take 3 (.take 4 (.take 6 (.take 7 (.take 8 (.take 9 (.take 10 (.eff 5 (.tail [.run, .run, .run]))))))))))))) .leaf) (.seq (.reg []) (.cond (.seq (.drw 15 true ⟨[0, 0, 2, 0, 8, 0, 32, 85, 0, 0, 512, 0, 2048, 0, 8192, 21888, 32896, 131071], [0, 0, 2, 0, 8, 0, 32, 85, 0, 0, 512, 0, 2048, 0, 8192, 21760, 32896, 65536]⟩ [9903520314283042199192993792, 19807040628566084398385987584, 39614081257132168796771975168, 79228162514264337593543950336, 158456325028528675187087900672, 316912650057057350374175801344, 633825300114114700748351602688, 1267650600228229401496703205376, 2535301200456458802993406410752, 5070602400912917605986812821504, 10141204801825835211973625643008, 20282409603651670423947251286016, 40564819207303340847894502572032, 81129638414606681695789005144064, 162259276829213363391578010288128, 324518553658426726783156020576256, 649037107316853453566312041152512, 64] [1, 32, 19807040628566084398385987584, 32, 79228162514264337593543950336, 32, 316912650057057350374175801344, 841799226714058586931404472320, 2, 32, 5070602400912917605986812821504, 32, 20282409603651670423947251286016, 32, 81129638414606681695789005144064, 215500602038798998254439544913920, 325786204258654956184652723781632, 649037107316853453566312041152512] (.take 0 (.take 1 (.take 2 (.take 3 (.take 4 (.take 5 (.take 6 (.take 8 (.take 9 (.take 10 (.take 11 (.take 12 (.take 13 (.take 14 (.eff 7 (.tail [.run, .run, .run]))))))))))))))))) .leaf) (.seq (.drw 7 true ⟨[0, 0, 2, 5, 0, 0, 32, 88, 136, 511], [0, 0, 2, 5, 0, 0, 32, 80, 136, 256]⟩ [2048, 4096, 8192, 16384, 32768, 65536, 131072, 262144, 524288, 64] [1, 32, 4096, 10240, 2, 32, 65536, 163840, 278528, 524288] (.take 0 (.take 1 (.take 2 (.take 4 (.take 5 (.take 6 (.eff 3 (.tail [.run, .run, .run]))))))))) .leaf)))))))))))))))))
theorem W.law20_Do_eq (f : Option Addr) (x : Option Addr) (a : Array Value) (w : World) (Q : Value → World → Prop) : W.law20_Do f x a w Q = DF Try.prog tk A.law20_Do Try.f17 [.pointer f, .pointer x, .agg a] w Q := by kernel_rfl
theorem W.law20_Do_ok (f : Option Addr) (x : Option Addr) (a : Array Value) (w : World) (Q : Value → World → Prop) (h : W.law20_Do f x a w Q) : Calls Try.prog F.law20_Do #[.pointer f, .pointer x, .agg a] w fun e w1 => ∃ v, e = .returned v ∧ Q v w1 :=
  calls_of_DF hmix Try.func17 (by kernel_rfl) (Eq.mp (W.law20_Do_eq f x a w Q) h)

/-- stanchion/stanchionlaw20.Few -/
def W.law20_Few (a : Array Value) (w : World) (Q : Value → World → Prop) : Prop :=
  Nx (w.alloc (.cells a Ty.law20_Act)) fun w1 => Nx (
    w1.alloc (
      .cells #[.int .i64 0, .int .i64 0, .int .i64 0, .int .i64 0, .int .i64 0, .bool false, .int .u8 0, .int .u8 0, .int .u8 0, .int .u8 0, .int .u8 0, .int .u8 0, .int .u8 0, .int .u8 0, .int .u8 0, .int .u8 0, .int .u8 0, .int .u8 0, .int .u8 0, .int .u8 0, .int .u8 0, .int .u8 0, .int .u16 0, .int .u8 0, .int .i64 0, .int .u64 0, .slice none 0 0, .int .i64 0, .bool false, .int .u8 0, .int .u8 0, .int .u8 0, .int .u8 0, .int .u8 0, .int .u8 0, .int .u8 0, .int .u8 0, .int .u8 0, .int .u8 0, .int .u8 0, .int .u8 0, .int .u8 0, .int .u8 0, .int .u8 0, .int .u8 0, .int .u16 0, .int .i64 0, .bool false] Ty.law20_Act)
    )
  fun w2 => ∃ s3 : Sl, w2.cell? ((Addr.add ⟨w.heap.size, 0, none⟩ 4).add 22) = some (.slice s3.a s3.len s3.cap) ∧
  Jn (
    fun k4 : Sl → World → Prop => (
      (decide ((((s3.len : Nat) : Int) : Int) > 2)) = true → ((0 : Int) ≤ 2 ∧ 2 ≤ ((s3.cap : Nat) : Int)) ∧
      k4 ⟨(cutA s3.a 21 0 s3.cap), ((Int.toNat 2) - 0), (s3.cap - 0)⟩ w2)
    ∧ ((decide ((((s3.len : Nat) : Int) : Int) > 2)) = false → k4 s3 w2))
  (
    fun (s5 : Sl) (w6 : World) => ∃ s7 : Sl, ∃ w8 : World, Sem.run Try.prog (Instr.buildSlice Ty.Sl_api_Backend 0 #[]) w6 = .ok (.slice s7.a s7.len s7.cap) w8 ∧
    ∃ s9 : Sl, ∃ w10 : World, Sem.run Try.prog (
      Builtin.append_ #[Ty.Sl_api_Backend, Ty.Sl_api_Backend] Ty.Sl_api_Backend #[.slice s7.a s7.len s7.cap, .slice s5.a s5.len s5.cap])
    w8 = .ok (.slice s9.a s9.len s9.cap) w10 ∧ (∃ u : Value, w10.cell? ((Addr.add ⟨w.heap.size, 0, none⟩ 4).add 22) = some u) ∧
    w10.frozen? ((Addr.add ⟨w.heap.size, 0, none⟩ 4).add 22) = false ∧ Nx (w10.setCell ((Addr.add ⟨w.heap.size, 0, none⟩ 4).add 22) (.slice s9.a s9.len s9.cap)) fun w11 =>
    ∃ l12 : List Value, rdCells w11 ⟨w.heap.size, 0, none⟩ 0 48 = some l12 ∧ StoreOk w11 ⟨w1.heap.size, 0, none⟩ (Array.toList l12.toArray) ∧
    Array.size l12.toArray = 48 ∧ Nx (setCells w11 ⟨w1.heap.size, 0, none⟩ 0 (Array.toList l12.toArray)) fun w13 =>
    ∃ l14 : List Value, rdCells w13 ⟨w1.heap.size, 0, none⟩ 0 48 = some l14 ∧
    Q (.agg l14.toArray) w13)
def A.law20_Few : AT := (.seq (.reg []) (.seq (.reg []) (.seq (.jk [(3, .slice)] [1, 2] (.seq (.reg []) (.cond (.reg []) .leaf))) (.seq (.reg []) (.seq (.reg []) .leaf)))))
theorem W.law20_Few_eq (a : Array Value) (w : World) (Q : Value → World → Prop) : W.law20_Few a w Q = DF Try.prog tk A.law20_Few Try.f23 [.agg a] w Q := by kernel_rfl
theorem W.law20_Few_ok (a : Array Value) (w : World) (Q : Value → World → Prop) (h : W.law20_Few a w Q) : Calls Try.prog F.law20_Few #[.agg a] w fun e w1 => ∃ v, e = .returned v ∧ Q v w1 :=
  calls_of_DF hmix Try.func23 (by kernel_rfl) (Eq.mp (W.law20_Few_eq a w Q) h)

end Go.Proofs.Ytldeegpcldhjaaa
