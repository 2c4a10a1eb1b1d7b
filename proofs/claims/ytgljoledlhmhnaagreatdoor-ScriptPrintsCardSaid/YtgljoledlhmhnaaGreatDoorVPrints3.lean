/- Printed by gen.py: functions of the program, each as what must be shown of it. -/
import Derived.Test.YtgljoledlhmhnaaGreatDoorGb
import Derived.Test.YtgljoledlhmhnaaGreatDoorVPrints2
namespace Go.Proofs.YtgljoledlhmhnaaGreatDoor
open Go Gx
set_option maxRecDepth 100000
/-- stanchion/stanchionref29.Show -/
def W.ref29_Show (op : Array Value) (w : World) (Q : Value → World → Prop) : Prop :=
  Nx (w.alloc (.cells op Ty.api_Op)) fun w1 => Nx (
    w1.alloc (
      .cells #[.string (ByteArray.mk #[]), .string (ByteArray.mk #[112, 97, 99, 107, 101, 116]), .string (ByteArray.mk #[116, 105, 99, 107]), .string (ByteArray.mk #[115, 101, 114, 118, 105, 99, 101]), .string (ByteArray.mk #[100, 114, 111, 112]), .string (ByteArray.mk #[98, 97, 99, 107, 101, 110, 100]), .string (ByteArray.mk #[114, 101, 109, 111, 118, 101]), .string (ByteArray.mk #[100, 114, 97, 105, 110]), .string (ByteArray.mk #[119, 101, 105, 103, 104]), .string (ByteArray.mk #[99, 104, 101, 99, 107]), .string (ByteArray.mk #[115, 121, 110, 99]), .string (ByteArray.mk #[99, 114, 97, 115, 104]), .string (ByteArray.mk #[102, 97, 105, 108]), .string (ByteArray.mk #[115, 112, 111, 105, 108]), .string (ByteArray.mk #[109, 111, 117, 110, 116])] Ty.string)
    )
  fun w2 => Nx (w2.drew) fun w3 => ∃ W4 : Nat → Prop, ¬ W4 (⟨w.heap.size, 0, none⟩ : Addr).block ∧
  ∃ n5 : Int, w3.cell? ⟨w.heap.size, 0, none⟩ = some (.int .i64 n5) ∧ (
    (decide ((n5 : Int) < 1)) = true → Jn (
      fun k6 : Bool → World → Prop => (true = true → k6 true w3) ∧ (
        true = false → ∃ l7 : List Value, rdCells w3 ((Addr.add ⟨w.heap.size, 0, none⟩ 6).add 1) 0 17 = some l7 ∧
        Calls Tryz.prog F.ref12_Good #[.agg l7.toArray] w3 fun e9 w8 => ∃ b10 : Bool, e9 = .returned (.bool b10) ∧
        k6 (!b10) w8)
      )
    (
      fun (b11 : Bool) (w12 : World) => Jn (
        fun k13 : Bool → World → Prop => (b11 = true → k13 true w12) ∧ (
          b11 = false → ∃ l14 : List Value, rdCells w12 ((Addr.add ⟨w.heap.size, 0, none⟩ 29).add 1) 0 17 = some l14 ∧
          Calls Tryz.prog F.ref12_Good #[.agg l14.toArray] w12 fun e16 w15 => ∃ b17 : Bool, e16 = .returned (.bool b17) ∧
          k13 (!b17) w15)
        )
      (
        fun (b18 : Bool) (w19 : World) => (b18 = true → Q (.string (ByteArray.mk #[])) w19) ∧
        (
          b18 = false → Nx (w19.drew) fun w20 => ∃ W21 : Nat → Prop, ¬ W21 (⟨w.heap.size, 0, none⟩ : Addr).block ∧
          ∃ n22 : Int, w20.cell? ⟨w.heap.size, 0, none⟩ = some (.int .i64 n22) ∧ ∃ a23 : Addr, (some ⟨w1.heap.size, 0, none⟩) = some a23 ∧
          ((0 : Int) ≤ n22 ∧ n22 < ((15 : Nat) : Int)) ∧ ¬ W21 (a23.add (Int.toNat n22 * 1)).block ∧
          ∃ s24 : ByteArray, w20.cell? (a23.add (Int.toNat n22 * 1)) = some (.string s24) ∧
          ¬ W21 (Addr.add ⟨w.heap.size, 0, none⟩ 2).block ∧ ∃ n25 : Int, w20.cell? (Addr.add ⟨w.heap.size, 0, none⟩ 2) = some (.int .i64 n25) ∧
          ¬ W21 (Addr.add ⟨w.heap.size, 0, none⟩ 3).block ∧ ∃ n26 : Int, w20.cell? (Addr.add ⟨w.heap.size, 0, none⟩ 3) = some (.int .i64 n26) ∧
          Calls Tryz.prog F.ref29_int0 #[.int .i64 n25] w20 fun e28 w27 => ∃ s29 : ByteArray, e28 = .returned (.string s29) ∧
          Chg W21 w20 w27 ∧ ((ByteArray.size (ByteArray.mk #[32]) + ByteArray.size s29 : Nat) : Int) ≤ 9223372036854775807 ∧
          ((ByteArray.size ((ByteArray.mk #[32]) ++ s29) + ByteArray.size (ByteArray.mk #[32]) : Nat) : Int) ≤ 9223372036854775807 ∧
          Calls Tryz.prog F.ref29_int0 #[.int .i64 n26] w27 fun e31 w30 => ∃ s32 : ByteArray, e31 = .returned (.string s32) ∧
          Chg W21 w27 w30 ∧ (
            (ByteArray.size (((ByteArray.mk #[32]) ++ s29) ++ (ByteArray.mk #[32])) + ByteArray.size s32 : Nat) : Int)
          ≤ 9223372036854775807 ∧ Jn (
            fun k33 : ByteArray → World → Prop => ∃ n34 : Int, w30.cell? ⟨w.heap.size, 0, none⟩ = some (.int .i64 n34) ∧
            (
              ((n34 : Int) == 1) = true → ((ByteArray.size s24 + ByteArray.size (ByteArray.mk #[32]) : Nat) : Int) ≤ 9223372036854775807 ∧
              ∃ s35 : Sl, w30.cell? (Addr.add ⟨w.heap.size, 0, none⟩ 1) = some (.slice s35.a s35.len s35.cap) ∧
              Calls Tryz.prog F.ref29_hex #[.slice s35.a s35.len s35.cap] w30 fun e37 w36 =>
              ∃ s38 : ByteArray, e37 = .returned (.string s38) ∧ ((ByteArray.size (s24 ++ (ByteArray.mk #[32])) + ByteArray.size s38 : Nat) : Int) ≤ 9223372036854775807 ∧
              k33 ((s24 ++ (ByteArray.mk #[32])) ++ s38) w36)
            ∧ (
              ((n34 : Int) == 1) = false → (
                ((n34 : Int) == 2) = true → ((ByteArray.size s24 + ByteArray.size (ByteArray.mk #[32]) : Nat) : Int) ≤ 9223372036854775807 ∧
                ∃ n39 : Int, w30.cell? (Addr.add ⟨w.heap.size, 0, none⟩ 4) = some (.int .u64 n39) ∧
                Calls Tryz.prog F.ref29_num #[.int .u64 n39] w30 fun e41 w40 => ∃ s42 : ByteArray, e41 = .returned (.string s42) ∧
                ((ByteArray.size (s24 ++ (ByteArray.mk #[32])) + ByteArray.size s42 : Nat) : Int) ≤ 9223372036854775807 ∧
                k33 ((s24 ++ (ByteArray.mk #[32])) ++ s42) w40)
              ∧ (
                ((n34 : Int) == 2) = false → (
                  ((n34 : Int) == 3) = true → ∃ l43 : List Value, rdCells w30 (Addr.add ⟨w.heap.size, 0, none⟩ 6) 0 23 = some l43 ∧
                  Nx (
                    w30.alloc (
                      .cells #[.int .i64 0, .bool false, .int .u8 0, .int .u8 0, .int .u8 0, .int .u8 0, .int .u8 0, .int .u8 0, .int .u8 0, .int .u8 0, .int .u8 0, .int .u8 0, .int .u8 0, .int .u8 0, .int .u8 0, .int .u8 0, .int .u8 0, .int .u8 0, .int .u16 0, .int .u8 0, .int .i64 0, .int .u64 0, .slice none 0 0] Ty.api_Service)
                    )
                  fun w44 => StoreOk w44 ⟨w30.heap.size, 0, none⟩ (Array.toList l43.toArray) ∧
                  Array.size l43.toArray = 23 ∧ Nx (setCells w44 ⟨w30.heap.size, 0, none⟩ 0 (Array.toList l43.toArray)) fun w45 =>
                  Nx (w45.drew) fun w46 => ∃ W47 : Nat → Prop, ((ByteArray.size s24 + ByteArray.size (ByteArray.mk #[32]) : Nat) : Int) ≤ 9223372036854775807 ∧
                  ¬ W47 (⟨w30.heap.size, 0, none⟩ : Addr).block ∧ ∃ n48 : Int, w46.cell? ⟨w30.heap.size, 0, none⟩ = some (.int .i64 n48) ∧
                  ¬ W47 (Addr.add ⟨w30.heap.size, 0, none⟩ 1).block ∧ ∃ l49 : List Value, rdCells w46 (Addr.add ⟨w30.heap.size, 0, none⟩ 1) 0 17 = some l49 ∧
                  ¬ W47 (Addr.add ⟨w30.heap.size, 0, none⟩ 18).block ∧ ∃ n50 : Int, w46.cell? (Addr.add ⟨w30.heap.size, 0, none⟩ 18) = some (.int .u16 n50) ∧
                  ¬ W47 (Addr.add ⟨w30.heap.size, 0, none⟩ 19).block ∧ ∃ n51 : Int, w46.cell? (Addr.add ⟨w30.heap.size, 0, none⟩ 19) = some (.int .u8 n51) ∧
                  ¬ W47 (Addr.add ⟨w30.heap.size, 0, none⟩ 20).block ∧ ∃ n52 : Int, w46.cell? (Addr.add ⟨w30.heap.size, 0, none⟩ 20) = some (.int .i64 n52) ∧
                  ¬ W47 (Addr.add ⟨w30.heap.size, 0, none⟩ 21).block ∧ ∃ n53 : Int, w46.cell? (Addr.add ⟨w30.heap.size, 0, none⟩ 21) = some (.int .u64 n53) ∧
                  Calls Tryz.prog F.ref29_int0 #[.int .i64 n48] w46 fun e55 w54 => ∃ s56 : ByteArray, e55 = .returned (.string s56) ∧
                  Chg W47 w46 w54 ∧ ((ByteArray.size (s24 ++ (ByteArray.mk #[32])) + ByteArray.size s56 : Nat) : Int) ≤ 9223372036854775807 ∧
                  (
                    (ByteArray.size ((s24 ++ (ByteArray.mk #[32])) ++ s56) + ByteArray.size (ByteArray.mk #[32]) : Nat) : Int)
                  ≤ 9223372036854775807 ∧ Calls Tryz.prog F.ref12_Show #[.agg l49.toArray] w54 fun e58 w57 =>
                  ∃ s59 : ByteArray, e58 = .returned (.string s59) ∧ Chg W47 w54 w57 ∧ (
                    (
                      ByteArray.size (((s24 ++ (ByteArray.mk #[32])) ++ s56) ++ (ByteArray.mk #[32])) + ByteArray.size s59 : Nat)
                    : Int)
                  ≤ 9223372036854775807 ∧ (
                    (
                      ByteArray.size ((((s24 ++ (ByteArray.mk #[32])) ++ s56) ++ (ByteArray.mk #[32])) ++ s59) + ByteArray.size (ByteArray.mk #[32]) : Nat)
                    : Int)
                  ≤ 9223372036854775807 ∧ Calls Tryz.prog F.ref29_num #[.int .u64 (IntKind.wrap .u64 n50)] w57 fun e61 w60 =>
                  ∃ s62 : ByteArray, e61 = .returned (.string s62) ∧ Chg W47 w57 w60 ∧ (
                    (
                      ByteArray.size (((((s24 ++ (ByteArray.mk #[32])) ++ s56) ++ (ByteArray.mk #[32])) ++ s59) ++ (ByteArray.mk #[32])) + ByteArray.size s62 : Nat)
                    : Int)
                  ≤ 9223372036854775807 ∧ (
                    (
                      ByteArray.size (
                        (((((s24 ++ (ByteArray.mk #[32])) ++ s56) ++ (ByteArray.mk #[32])) ++ s59) ++ (ByteArray.mk #[32])) ++ s62)
                      + ByteArray.size (ByteArray.mk #[32]) : Nat)
                    : Int)
                  ≤ 9223372036854775807 ∧ Calls Tryz.prog F.ref29_num #[.int .u64 (IntKind.wrap .u64 n51)] w60 fun e64 w63 =>
                  ∃ s65 : ByteArray, e64 = .returned (.string s65) ∧ Chg W47 w60 w63 ∧ (
                    (
                      ByteArray.size (
                        (
                          (((((s24 ++ (ByteArray.mk #[32])) ++ s56) ++ (ByteArray.mk #[32])) ++ s59) ++ (ByteArray.mk #[32])) ++ s62)
                        ++ (ByteArray.mk #[32]))
                      + ByteArray.size s65 : Nat)
                    : Int)
                  ≤ 9223372036854775807 ∧ (
                    (
                      ByteArray.size (
                        (
                          (
                            (((((s24 ++ (ByteArray.mk #[32])) ++ s56) ++ (ByteArray.mk #[32])) ++ s59) ++ (ByteArray.mk #[32])) ++ s62)
                          ++ (ByteArray.mk #[32]))
                        ++ s65)
                      + ByteArray.size (ByteArray.mk #[32]) : Nat)
                    : Int)
                  ≤ 9223372036854775807 ∧ Calls Tryz.prog F.ref29_int0 #[.int .i64 n52] w63 fun e67 w66 =>
                  ∃ s68 : ByteArray, e67 = .returned (.string s68) ∧ Chg W47 w63 w66 ∧ (
                    (
                      ByteArray.size (
                        (
                          (
                            (
                              (((((s24 ++ (ByteArray.mk #[32])) ++ s56) ++ (ByteArray.mk #[32])) ++ s59) ++ (ByteArray.mk #[32])) ++ s62)
                            ++ (ByteArray.mk #[32]))
                          ++ s65)
                        ++ (ByteArray.mk #[32]))
                      + ByteArray.size s68 : Nat)
                    : Int)
                  ≤ 9223372036854775807 ∧ (
                    (
                      ByteArray.size (
                        (
                          (
                            (
                              (
                                (((((s24 ++ (ByteArray.mk #[32])) ++ s56) ++ (ByteArray.mk #[32])) ++ s59) ++ (ByteArray.mk #[32])) ++ s62)
                              ++ (ByteArray.mk #[32]))
                            ++ s65)
                          ++ (ByteArray.mk #[32]))
                        ++ s68)
                      + ByteArray.size (ByteArray.mk #[32]) : Nat)
                    : Int)
                  ≤ 9223372036854775807 ∧ Calls Tryz.prog F.ref29_num #[.int .u64 n53] w66 fun e70 w69 =>
                  ∃ s71 : ByteArray, e70 = .returned (.string s71) ∧ Chg W47 w66 w69 ∧ (
                    (
                      ByteArray.size (
                        (
                          (
                            (
                              (
                                (
                                  (((((s24 ++ (ByteArray.mk #[32])) ++ s56) ++ (ByteArray.mk #[32])) ++ s59) ++ (ByteArray.mk #[32])) ++ s62)
                                ++ (ByteArray.mk #[32]))
                              ++ s65)
                            ++ (ByteArray.mk #[32]))
                          ++ s68)
                        ++ (ByteArray.mk #[32]))
                      + ByteArray.size s71 : Nat)
                    : Int)
                  ≤ 9223372036854775807 ∧ k33 (
                    (
                      (
                        (
                          (
                            (
                              (
                                (((((s24 ++ (ByteArray.mk #[32])) ++ s56) ++ (ByteArray.mk #[32])) ++ s59) ++ (ByteArray.mk #[32])) ++ s62)
                              ++ (ByteArray.mk #[32]))
                            ++ s65)
                          ++ (ByteArray.mk #[32]))
                        ++ s68)
                      ++ (ByteArray.mk #[32]))
                    ++ s71)
                  w69)
                ∧ (
                  ((n34 : Int) == 3) = false → (
                    ((n34 : Int) == 4) = true → ((ByteArray.size s24 + ByteArray.size (ByteArray.mk #[32]) : Nat) : Int) ≤ 9223372036854775807 ∧
                    ∃ n72 : Int, w30.cell? (Addr.add ⟨w.heap.size, 0, none⟩ 2) = some (.int .i64 n72) ∧
                    Calls Tryz.prog F.ref29_int0 #[.int .i64 n72] w30 fun e74 w73 => ∃ s75 : ByteArray, e74 = .returned (.string s75) ∧
                    ((ByteArray.size (s24 ++ (ByteArray.mk #[32])) + ByteArray.size s75 : Nat) : Int) ≤ 9223372036854775807 ∧
                    k33 ((s24 ++ (ByteArray.mk #[32])) ++ s75) w73)
                  ∧ (
                    ((n34 : Int) == 4) = false → (
                      ((n34 : Int) == 5) = true → Nx (w30.drew) fun w76 => ∃ W77 : Nat → Prop, ((ByteArray.size s24 + ByteArray.size (ByteArray.mk #[32]) : Nat) : Int) ≤ 9223372036854775807 ∧
                      ¬ W77 (Addr.add ⟨w.heap.size, 0, none⟩ 2).block ∧ ∃ n78 : Int, w76.cell? (Addr.add ⟨w.heap.size, 0, none⟩ 2) = some (.int .i64 n78) ∧
                      ¬ W77 (Addr.add ⟨w.heap.size, 0, none⟩ 29).block ∧ ∃ n79 : Int, w76.cell? (Addr.add ⟨w.heap.size, 0, none⟩ 29) = some (.int .i64 n79) ∧
                      ¬ W77 ((Addr.add ⟨w.heap.size, 0, none⟩ 29).add 1).block ∧ ∃ l80 : List Value, rdCells w76 ((Addr.add ⟨w.heap.size, 0, none⟩ 29).add 1) 0 17 = some l80 ∧
                      ¬ W77 ((Addr.add ⟨w.heap.size, 0, none⟩ 29).add 18).block ∧ ∃ n81 : Int, w76.cell? ((Addr.add ⟨w.heap.size, 0, none⟩ 29).add 18) = some (.int .u16 n81) ∧
                      ¬ W77 ((Addr.add ⟨w.heap.size, 0, none⟩ 29).add 19).block ∧ ∃ n82 : Int, w76.cell? ((Addr.add ⟨w.heap.size, 0, none⟩ 29).add 19) = some (.int .i64 n82) ∧
                      Calls Tryz.prog F.ref29_int0 #[.int .i64 n78] w76 fun e84 w83 => ∃ s85 : ByteArray, e84 = .returned (.string s85) ∧
                      Chg W77 w76 w83 ∧ ((ByteArray.size (s24 ++ (ByteArray.mk #[32])) + ByteArray.size s85 : Nat) : Int) ≤ 9223372036854775807 ∧
                      (
                        (ByteArray.size ((s24 ++ (ByteArray.mk #[32])) ++ s85) + ByteArray.size (ByteArray.mk #[32]) : Nat) : Int)
                      ≤ 9223372036854775807 ∧ Calls Tryz.prog F.ref29_int0 #[.int .i64 n79] w83 fun e87 w86 =>
                      ∃ s88 : ByteArray, e87 = .returned (.string s88) ∧ Chg W77 w83 w86 ∧ (
                        (
                          ByteArray.size (((s24 ++ (ByteArray.mk #[32])) ++ s85) ++ (ByteArray.mk #[32])) + ByteArray.size s88 : Nat)
                        : Int)
                      ≤ 9223372036854775807 ∧ (
                        (
                          ByteArray.size ((((s24 ++ (ByteArray.mk #[32])) ++ s85) ++ (ByteArray.mk #[32])) ++ s88) + ByteArray.size (ByteArray.mk #[32]) : Nat)
                        : Int)
                      ≤ 9223372036854775807 ∧ Calls Tryz.prog F.ref12_Show #[.agg l80.toArray] w86 fun e90 w89 =>
                      ∃ s91 : ByteArray, e90 = .returned (.string s91) ∧ Chg W77 w86 w89 ∧ (
                        (
                          ByteArray.size (((((s24 ++ (ByteArray.mk #[32])) ++ s85) ++ (ByteArray.mk #[32])) ++ s88) ++ (ByteArray.mk #[32])) + ByteArray.size s91 : Nat)
                        : Int)
                      ≤ 9223372036854775807 ∧ (
                        (
                          ByteArray.size (
                            (((((s24 ++ (ByteArray.mk #[32])) ++ s85) ++ (ByteArray.mk #[32])) ++ s88) ++ (ByteArray.mk #[32])) ++ s91)
                          + ByteArray.size (ByteArray.mk #[32]) : Nat)
                        : Int)
                      ≤ 9223372036854775807 ∧ Calls Tryz.prog F.ref29_num #[.int .u64 (IntKind.wrap .u64 n81)] w89 fun e93 w92 =>
                      ∃ s94 : ByteArray, e93 = .returned (.string s94) ∧ Chg W77 w89 w92 ∧ (
                        (
                          ByteArray.size (
                            (
                              (((((s24 ++ (ByteArray.mk #[32])) ++ s85) ++ (ByteArray.mk #[32])) ++ s88) ++ (ByteArray.mk #[32])) ++ s91)
                            ++ (ByteArray.mk #[32]))
                          + ByteArray.size s94 : Nat)
                        : Int)
                      ≤ 9223372036854775807 ∧ (
                        (
                          ByteArray.size (
                            (
                              (
                                (((((s24 ++ (ByteArray.mk #[32])) ++ s85) ++ (ByteArray.mk #[32])) ++ s88) ++ (ByteArray.mk #[32])) ++ s91)
                              ++ (ByteArray.mk #[32]))
                            ++ s94)
                          + ByteArray.size (ByteArray.mk #[32]) : Nat)
                        : Int)
                      ≤ 9223372036854775807 ∧ Calls Tryz.prog F.ref29_int0 #[.int .i64 n82] w92 fun e96 w95 =>
                      ∃ s97 : ByteArray, e96 = .returned (.string s97) ∧ Chg W77 w92 w95 ∧ (
                        (
                          ByteArray.size (
                            (
                              (
                                (
                                  (((((s24 ++ (ByteArray.mk #[32])) ++ s85) ++ (ByteArray.mk #[32])) ++ s88) ++ (ByteArray.mk #[32])) ++ s91)
                                ++ (ByteArray.mk #[32]))
                              ++ s94)
                            ++ (ByteArray.mk #[32]))
                          + ByteArray.size s97 : Nat)
                        : Int)
                      ≤ 9223372036854775807 ∧ k33 (
                        (
                          (
                            (
                              (
                                (((((s24 ++ (ByteArray.mk #[32])) ++ s85) ++ (ByteArray.mk #[32])) ++ s88) ++ (ByteArray.mk #[32])) ++ s91)
                              ++ (ByteArray.mk #[32]))
                            ++ s94)
                          ++ (ByteArray.mk #[32]))
                        ++ s97)
                      w95)
                    ∧ (
                      ((n34 : Int) == 5) = false → Jn (
                        fun k98 : Bool → World → Prop => (((n34 : Int) == 6) = true → k98 ((n34 : Int) == 6) w30) ∧
                        (((n34 : Int) == 6) = false → k98 ((n34 : Int) == 12) w30))
                      (
                        fun (b99 : Bool) (w100 : World) => (
                          b99 = true → (
                            (
                              ByteArray.size s24 + ByteArray.size ((((ByteArray.mk #[32]) ++ s29) ++ (ByteArray.mk #[32])) ++ s32) : Nat)
                            : Int)
                          ≤ 9223372036854775807 ∧ k33 (s24 ++ ((((ByteArray.mk #[32]) ++ s29) ++ (ByteArray.mk #[32])) ++ s32)) w100)
                        ∧ (
                          b99 = false → Jn (
                            fun k101 : Bool → World → Prop => (((n34 : Int) == 7) = true → k101 ((n34 : Int) == 7) w100) ∧
                            (((n34 : Int) == 7) = false → k101 ((n34 : Int) == 9) w100))
                          (
                            fun (b102 : Bool) (w103 : World) => (
                              b102 = true → (
                                (
                                  ByteArray.size s24 + ByteArray.size ((((ByteArray.mk #[32]) ++ s29) ++ (ByteArray.mk #[32])) ++ s32) : Nat)
                                : Int)
                              ≤ 9223372036854775807 ∧ ∃ b104 : Bool, w103.cell? (Addr.add ⟨w.heap.size, 0, none⟩ 5) = some (.bool b104) ∧
                              Calls Tryz.prog F.ref29_on #[.bool b104] w103 fun e106 w105 => ∃ s107 : ByteArray, e106 = .returned (.string s107) ∧
                              (
                                (
                                  ByteArray.size (s24 ++ ((((ByteArray.mk #[32]) ++ s29) ++ (ByteArray.mk #[32])) ++ s32)) + ByteArray.size s107 : Nat)
                                : Int)
                              ≤ 9223372036854775807 ∧ k33 ((s24 ++ ((((ByteArray.mk #[32]) ++ s29) ++ (ByteArray.mk #[32])) ++ s32)) ++ s107) w105)
                            ∧ (
                              b102 = false → Jn (
                                fun k108 : Bool → World → Prop => (((n34 : Int) == 8) = true → k108 ((n34 : Int) == 8) w103) ∧
                                (((n34 : Int) == 8) = false → k108 ((n34 : Int) == 13) w103))
                              (
                                fun (b109 : Bool) (w110 : World) => (
                                  b109 = true → (
                                    (
                                      ByteArray.size s24 + ByteArray.size ((((ByteArray.mk #[32]) ++ s29) ++ (ByteArray.mk #[32])) ++ s32) : Nat)
                                    : Int)
                                  ≤ 9223372036854775807 ∧ (
                                    (
                                      ByteArray.size (s24 ++ ((((ByteArray.mk #[32]) ++ s29) ++ (ByteArray.mk #[32])) ++ s32)) + ByteArray.size (ByteArray.mk #[32]) : Nat)
                                    : Int)
                                  ≤ 9223372036854775807 ∧ ∃ n111 : Int, w110.cell? (Addr.add ⟨w.heap.size, 0, none⟩ 4) = some (.int .u64 n111) ∧
                                  Calls Tryz.prog F.ref29_num #[.int .u64 n111] w110 fun e113 w112 => ∃ s114 : ByteArray, e113 = .returned (.string s114) ∧
                                  (
                                    (
                                      ByteArray.size ((s24 ++ ((((ByteArray.mk #[32]) ++ s29) ++ (ByteArray.mk #[32])) ++ s32)) ++ (ByteArray.mk #[32])) + ByteArray.size s114 : Nat)
                                    : Int)
                                  ≤ 9223372036854775807 ∧ k33 (
                                    ((s24 ++ ((((ByteArray.mk #[32]) ++ s29) ++ (ByteArray.mk #[32])) ++ s32)) ++ (ByteArray.mk #[32])) ++ s114)
                                  w112)
                                ∧ (
                                  b109 = false → ∃ (I115 : ByteArray → Int → World → Prop) (μ116 : ByteArray → Int → World → Nat), I115 s24 0 w110 ∧
                                  ∀ (s117 : ByteArray) (n118 : Int) (w119 : World), I115 s117 n118 w119 → ∃ s120 : Sl, w119.cell? (Addr.add ⟨w.heap.size, 0, none⟩ 50) = some (.slice s120.a s120.len s120.cap) ∧
                                  (
                                    (decide ((n118 : Int) < ((s120.len : Nat) : Int))) = true → ((ByteArray.size s117 + ByteArray.size (ByteArray.mk #[32]) : Nat) : Int) ≤ 9223372036854775807 ∧
                                    ∃ s121 : Sl, w119.cell? (Addr.add ⟨w.heap.size, 0, none⟩ 50) = some (.slice s121.a s121.len s121.cap) ∧
                                    ∃ a122 : Addr, s121.a = some a122 ∧ ((0 : Int) ≤ n118 ∧ n118 < ((s121.len : Nat) : Int)) ∧
                                    ∃ n123 : Int, w119.cell? (a122.add (Int.toNat n118 * 1)) = some (.int .i64 n123) ∧
                                    Calls Tryz.prog F.ref29_int0 #[.int .i64 n123] w119 fun e125 w124 => ∃ s126 : ByteArray, e125 = .returned (.string s126) ∧
                                    ((ByteArray.size (s117 ++ (ByteArray.mk #[32])) + ByteArray.size s126 : Nat) : Int) ≤ 9223372036854775807 ∧
                                    I115 ((s117 ++ (ByteArray.mk #[32])) ++ s126) (IntKind.wrap .i64 (n118 + 1)) w124 ∧
                                    μ116 ((s117 ++ (ByteArray.mk #[32])) ++ s126) (IntKind.wrap .i64 (n118 + 1)) w124 < μ116 s117 n118 w119)
                                  ∧ ((decide ((n118 : Int) < ((s120.len : Nat) : Int))) = false → k33 s117 w119))
                                )
                              )
                            )
                          )
                        )
                      )
                    )
                  )
                )
              )
            )
          (
            fun (s127 : ByteArray) (w128 : World) => (
              (decide ((((ByteArray.size s127 : Nat) : Int) : Int) > 4200)) = true → Q (.string (ByteArray.mk #[])) w128)
            ∧ ((decide ((((ByteArray.size s127 : Nat) : Int) : Int) > 4200)) = false → Q (.string s127) w128))
          )
        )
      )
    )
  ∧ (
    (decide ((n5 : Int) < 1)) = false → ¬ W4 (⟨w.heap.size, 0, none⟩ : Addr).block ∧
    ∃ n129 : Int, w3.cell? ⟨w.heap.size, 0, none⟩ = some (.int .i64 n129) ∧ (
      (decide ((n129 : Int) > 14)) = true → Jn (
        fun k130 : Bool → World → Prop => (true = true → k130 true w3) ∧ (
          true = false → ∃ l131 : List Value, rdCells w3 ((Addr.add ⟨w.heap.size, 0, none⟩ 6).add 1) 0 17 = some l131 ∧
          Calls Tryz.prog F.ref12_Good #[.agg l131.toArray] w3 fun e133 w132 => ∃ b134 : Bool, e133 = .returned (.bool b134) ∧
          k130 (!b134) w132)
        )
      (
        fun (b135 : Bool) (w136 : World) => Jn (
          fun k137 : Bool → World → Prop => (b135 = true → k137 true w136) ∧ (
            b135 = false → ∃ l138 : List Value, rdCells w136 ((Addr.add ⟨w.heap.size, 0, none⟩ 29).add 1) 0 17 = some l138 ∧
            Calls Tryz.prog F.ref12_Good #[.agg l138.toArray] w136 fun e140 w139 => ∃ b141 : Bool, e140 = .returned (.bool b141) ∧
            k137 (!b141) w139)
          )
        (
          fun (b142 : Bool) (w143 : World) => (b142 = true → Q (.string (ByteArray.mk #[])) w143) ∧
          (
            b142 = false → Nx (w143.drew) fun w144 => ∃ W145 : Nat → Prop, ¬ W145 (⟨w.heap.size, 0, none⟩ : Addr).block ∧
            ∃ n146 : Int, w144.cell? ⟨w.heap.size, 0, none⟩ = some (.int .i64 n146) ∧
            ∃ a147 : Addr, (some ⟨w1.heap.size, 0, none⟩) = some a147 ∧ ((0 : Int) ≤ n146 ∧ n146 < ((15 : Nat) : Int)) ∧
            ¬ W145 (a147.add (Int.toNat n146 * 1)).block ∧ ∃ s148 : ByteArray, w144.cell? (a147.add (Int.toNat n146 * 1)) = some (.string s148) ∧
            ¬ W145 (Addr.add ⟨w.heap.size, 0, none⟩ 2).block ∧ ∃ n149 : Int, w144.cell? (Addr.add ⟨w.heap.size, 0, none⟩ 2) = some (.int .i64 n149) ∧
            ¬ W145 (Addr.add ⟨w.heap.size, 0, none⟩ 3).block ∧ ∃ n150 : Int, w144.cell? (Addr.add ⟨w.heap.size, 0, none⟩ 3) = some (.int .i64 n150) ∧
            Calls Tryz.prog F.ref29_int0 #[.int .i64 n149] w144 fun e152 w151 => ∃ s153 : ByteArray, e152 = .returned (.string s153) ∧
            Chg W145 w144 w151 ∧ ((ByteArray.size (ByteArray.mk #[32]) + ByteArray.size s153 : Nat) : Int) ≤ 9223372036854775807 ∧
            ((ByteArray.size ((ByteArray.mk #[32]) ++ s153) + ByteArray.size (ByteArray.mk #[32]) : Nat) : Int) ≤ 9223372036854775807 ∧
            Calls Tryz.prog F.ref29_int0 #[.int .i64 n150] w151 fun e155 w154 => ∃ s156 : ByteArray, e155 = .returned (.string s156) ∧
            Chg W145 w151 w154 ∧ (
              (ByteArray.size (((ByteArray.mk #[32]) ++ s153) ++ (ByteArray.mk #[32])) + ByteArray.size s156 : Nat) : Int)
            ≤ 9223372036854775807 ∧ Jn (
              fun k157 : ByteArray → World → Prop => ∃ n158 : Int, w154.cell? ⟨w.heap.size, 0, none⟩ = some (.int .i64 n158) ∧
              (
                ((n158 : Int) == 1) = true → ((ByteArray.size s148 + ByteArray.size (ByteArray.mk #[32]) : Nat) : Int) ≤ 9223372036854775807 ∧
                ∃ s159 : Sl, w154.cell? (Addr.add ⟨w.heap.size, 0, none⟩ 1) = some (.slice s159.a s159.len s159.cap) ∧
                Calls Tryz.prog F.ref29_hex #[.slice s159.a s159.len s159.cap] w154 fun e161 w160 =>
                ∃ s162 : ByteArray, e161 = .returned (.string s162) ∧ ((ByteArray.size (s148 ++ (ByteArray.mk #[32])) + ByteArray.size s162 : Nat) : Int) ≤ 9223372036854775807 ∧
                k157 ((s148 ++ (ByteArray.mk #[32])) ++ s162) w160)
              ∧ (
                ((n158 : Int) == 1) = false → (
                  ((n158 : Int) == 2) = true → ((ByteArray.size s148 + ByteArray.size (ByteArray.mk #[32]) : Nat) : Int) ≤ 9223372036854775807 ∧
                  ∃ n163 : Int, w154.cell? (Addr.add ⟨w.heap.size, 0, none⟩ 4) = some (.int .u64 n163) ∧
                  Calls Tryz.prog F.ref29_num #[.int .u64 n163] w154 fun e165 w164 => ∃ s166 : ByteArray, e165 = .returned (.string s166) ∧
                  ((ByteArray.size (s148 ++ (ByteArray.mk #[32])) + ByteArray.size s166 : Nat) : Int) ≤ 9223372036854775807 ∧
                  k157 ((s148 ++ (ByteArray.mk #[32])) ++ s166) w164)
                ∧ (
                  ((n158 : Int) == 2) = false → (
                    ((n158 : Int) == 3) = true → ∃ l167 : List Value, rdCells w154 (Addr.add ⟨w.heap.size, 0, none⟩ 6) 0 23 = some l167 ∧
                    Nx (
                      w154.alloc (
                        .cells #[.int .i64 0, .bool false, .int .u8 0, .int .u8 0, .int .u8 0, .int .u8 0, .int .u8 0, .int .u8 0, .int .u8 0, .int .u8 0, .int .u8 0, .int .u8 0, .int .u8 0, .int .u8 0, .int .u8 0, .int .u8 0, .int .u8 0, .int .u8 0, .int .u16 0, .int .u8 0, .int .i64 0, .int .u64 0, .slice none 0 0] Ty.api_Service)
                      )
                    fun w168 => StoreOk w168 ⟨w154.heap.size, 0, none⟩ (Array.toList l167.toArray) ∧
                    Array.size l167.toArray = 23 ∧ Nx (setCells w168 ⟨w154.heap.size, 0, none⟩ 0 (Array.toList l167.toArray)) fun w169 =>
                    Nx (w169.drew) fun w170 => ∃ W171 : Nat → Prop, ((ByteArray.size s148 + ByteArray.size (ByteArray.mk #[32]) : Nat) : Int) ≤ 9223372036854775807 ∧
                    ¬ W171 (⟨w154.heap.size, 0, none⟩ : Addr).block ∧ ∃ n172 : Int, w170.cell? ⟨w154.heap.size, 0, none⟩ = some (.int .i64 n172) ∧
                    ¬ W171 (Addr.add ⟨w154.heap.size, 0, none⟩ 1).block ∧ ∃ l173 : List Value, rdCells w170 (Addr.add ⟨w154.heap.size, 0, none⟩ 1) 0 17 = some l173 ∧
                    ¬ W171 (Addr.add ⟨w154.heap.size, 0, none⟩ 18).block ∧ ∃ n174 : Int, w170.cell? (Addr.add ⟨w154.heap.size, 0, none⟩ 18) = some (.int .u16 n174) ∧
                    ¬ W171 (Addr.add ⟨w154.heap.size, 0, none⟩ 19).block ∧ ∃ n175 : Int, w170.cell? (Addr.add ⟨w154.heap.size, 0, none⟩ 19) = some (.int .u8 n175) ∧
                    ¬ W171 (Addr.add ⟨w154.heap.size, 0, none⟩ 20).block ∧ ∃ n176 : Int, w170.cell? (Addr.add ⟨w154.heap.size, 0, none⟩ 20) = some (.int .i64 n176) ∧
                    ¬ W171 (Addr.add ⟨w154.heap.size, 0, none⟩ 21).block ∧ ∃ n177 : Int, w170.cell? (Addr.add ⟨w154.heap.size, 0, none⟩ 21) = some (.int .u64 n177) ∧
                    Calls Tryz.prog F.ref29_int0 #[.int .i64 n172] w170 fun e179 w178 => ∃ s180 : ByteArray, e179 = .returned (.string s180) ∧
                    Chg W171 w170 w178 ∧ ((ByteArray.size (s148 ++ (ByteArray.mk #[32])) + ByteArray.size s180 : Nat) : Int) ≤ 9223372036854775807 ∧
                    (
                      (ByteArray.size ((s148 ++ (ByteArray.mk #[32])) ++ s180) + ByteArray.size (ByteArray.mk #[32]) : Nat) : Int)
                    ≤ 9223372036854775807 ∧ Calls Tryz.prog F.ref12_Show #[.agg l173.toArray] w178 fun e182 w181 =>
                    ∃ s183 : ByteArray, e182 = .returned (.string s183) ∧ Chg W171 w178 w181 ∧
                    (
                      (
                        ByteArray.size (((s148 ++ (ByteArray.mk #[32])) ++ s180) ++ (ByteArray.mk #[32])) + ByteArray.size s183 : Nat)
                      : Int)
                    ≤ 9223372036854775807 ∧ (
                      (
                        ByteArray.size ((((s148 ++ (ByteArray.mk #[32])) ++ s180) ++ (ByteArray.mk #[32])) ++ s183) + ByteArray.size (ByteArray.mk #[32]) : Nat)
                      : Int)
                    ≤ 9223372036854775807 ∧ Calls Tryz.prog F.ref29_num #[.int .u64 (IntKind.wrap .u64 n174)] w181 fun e185 w184 =>
                    ∃ s186 : ByteArray, e185 = .returned (.string s186) ∧ Chg W171 w181 w184 ∧
                    (
                      (
                        ByteArray.size (
                          ((((s148 ++ (ByteArray.mk #[32])) ++ s180) ++ (ByteArray.mk #[32])) ++ s183) ++ (ByteArray.mk #[32]))
                        + ByteArray.size s186 : Nat)
                      : Int)
                    ≤ 9223372036854775807 ∧ (
                      (
                        ByteArray.size (
                          (
                            ((((s148 ++ (ByteArray.mk #[32])) ++ s180) ++ (ByteArray.mk #[32])) ++ s183) ++ (ByteArray.mk #[32]))
                          ++ s186)
                        + ByteArray.size (ByteArray.mk #[32]) : Nat)
                      : Int)
                    ≤ 9223372036854775807 ∧ Calls Tryz.prog F.ref29_num #[.int .u64 (IntKind.wrap .u64 n175)] w184 fun e188 w187 =>
                    ∃ s189 : ByteArray, e188 = .returned (.string s189) ∧ Chg W171 w184 w187 ∧
                    (
                      (
                        ByteArray.size (
                          (
                            (
                              ((((s148 ++ (ByteArray.mk #[32])) ++ s180) ++ (ByteArray.mk #[32])) ++ s183) ++ (ByteArray.mk #[32]))
                            ++ s186)
                          ++ (ByteArray.mk #[32]))
                        + ByteArray.size s189 : Nat)
                      : Int)
                    ≤ 9223372036854775807 ∧ (
                      (
                        ByteArray.size (
                          (
                            (
                              (
                                ((((s148 ++ (ByteArray.mk #[32])) ++ s180) ++ (ByteArray.mk #[32])) ++ s183) ++ (ByteArray.mk #[32]))
                              ++ s186)
                            ++ (ByteArray.mk #[32]))
                          ++ s189)
                        + ByteArray.size (ByteArray.mk #[32]) : Nat)
                      : Int)
                    ≤ 9223372036854775807 ∧ Calls Tryz.prog F.ref29_int0 #[.int .i64 n176] w187 fun e191 w190 =>
                    ∃ s192 : ByteArray, e191 = .returned (.string s192) ∧ Chg W171 w187 w190 ∧
                    (
                      (
                        ByteArray.size (
                          (
                            (
                              (
                                (
                                  ((((s148 ++ (ByteArray.mk #[32])) ++ s180) ++ (ByteArray.mk #[32])) ++ s183) ++ (ByteArray.mk #[32]))
                                ++ s186)
                              ++ (ByteArray.mk #[32]))
                            ++ s189)
                          ++ (ByteArray.mk #[32]))
                        + ByteArray.size s192 : Nat)
                      : Int)
                    ≤ 9223372036854775807 ∧ (
                      (
                        ByteArray.size (
                          (
                            (
                              (
                                (
                                  (
                                    ((((s148 ++ (ByteArray.mk #[32])) ++ s180) ++ (ByteArray.mk #[32])) ++ s183) ++ (ByteArray.mk #[32]))
                                  ++ s186)
                                ++ (ByteArray.mk #[32]))
                              ++ s189)
                            ++ (ByteArray.mk #[32]))
                          ++ s192)
                        + ByteArray.size (ByteArray.mk #[32]) : Nat)
                      : Int)
                    ≤ 9223372036854775807 ∧ Calls Tryz.prog F.ref29_num #[.int .u64 n177] w190 fun e194 w193 =>
                    ∃ s195 : ByteArray, e194 = .returned (.string s195) ∧ Chg W171 w190 w193 ∧
                    (
                      (
                        ByteArray.size (
                          (
                            (
                              (
                                (
                                  (
                                    (
                                      ((((s148 ++ (ByteArray.mk #[32])) ++ s180) ++ (ByteArray.mk #[32])) ++ s183) ++ (ByteArray.mk #[32]))
                                    ++ s186)
                                  ++ (ByteArray.mk #[32]))
                                ++ s189)
                              ++ (ByteArray.mk #[32]))
                            ++ s192)
                          ++ (ByteArray.mk #[32]))
                        + ByteArray.size s195 : Nat)
                      : Int)
                    ≤ 9223372036854775807 ∧ k157 (
                      (
                        (
                          (
                            (
                              (
                                (
                                  (
                                    ((((s148 ++ (ByteArray.mk #[32])) ++ s180) ++ (ByteArray.mk #[32])) ++ s183) ++ (ByteArray.mk #[32]))
                                  ++ s186)
                                ++ (ByteArray.mk #[32]))
                              ++ s189)
                            ++ (ByteArray.mk #[32]))
                          ++ s192)
                        ++ (ByteArray.mk #[32]))
                      ++ s195)
                    w193)
                  ∧ (
                    ((n158 : Int) == 3) = false → (
                      ((n158 : Int) == 4) = true → ((ByteArray.size s148 + ByteArray.size (ByteArray.mk #[32]) : Nat) : Int) ≤ 9223372036854775807 ∧
                      ∃ n196 : Int, w154.cell? (Addr.add ⟨w.heap.size, 0, none⟩ 2) = some (.int .i64 n196) ∧
                      Calls Tryz.prog F.ref29_int0 #[.int .i64 n196] w154 fun e198 w197 => ∃ s199 : ByteArray, e198 = .returned (.string s199) ∧
                      ((ByteArray.size (s148 ++ (ByteArray.mk #[32])) + ByteArray.size s199 : Nat) : Int) ≤ 9223372036854775807 ∧
                      k157 ((s148 ++ (ByteArray.mk #[32])) ++ s199) w197)
                    ∧ (
                      ((n158 : Int) == 4) = false → (
                        ((n158 : Int) == 5) = true → Nx (w154.drew) fun w200 => ∃ W201 : Nat → Prop, ((ByteArray.size s148 + ByteArray.size (ByteArray.mk #[32]) : Nat) : Int) ≤ 9223372036854775807 ∧
                        ¬ W201 (Addr.add ⟨w.heap.size, 0, none⟩ 2).block ∧ ∃ n202 : Int, w200.cell? (Addr.add ⟨w.heap.size, 0, none⟩ 2) = some (.int .i64 n202) ∧
                        ¬ W201 (Addr.add ⟨w.heap.size, 0, none⟩ 29).block ∧ ∃ n203 : Int, w200.cell? (Addr.add ⟨w.heap.size, 0, none⟩ 29) = some (.int .i64 n203) ∧
                        ¬ W201 ((Addr.add ⟨w.heap.size, 0, none⟩ 29).add 1).block ∧ ∃ l204 : List Value, rdCells w200 ((Addr.add ⟨w.heap.size, 0, none⟩ 29).add 1) 0 17 = some l204 ∧
                        ¬ W201 ((Addr.add ⟨w.heap.size, 0, none⟩ 29).add 18).block ∧ ∃ n205 : Int, w200.cell? ((Addr.add ⟨w.heap.size, 0, none⟩ 29).add 18) = some (.int .u16 n205) ∧
                        ¬ W201 ((Addr.add ⟨w.heap.size, 0, none⟩ 29).add 19).block ∧ ∃ n206 : Int, w200.cell? ((Addr.add ⟨w.heap.size, 0, none⟩ 29).add 19) = some (.int .i64 n206) ∧
                        Calls Tryz.prog F.ref29_int0 #[.int .i64 n202] w200 fun e208 w207 => ∃ s209 : ByteArray, e208 = .returned (.string s209) ∧
                        Chg W201 w200 w207 ∧ ((ByteArray.size (s148 ++ (ByteArray.mk #[32])) + ByteArray.size s209 : Nat) : Int) ≤ 9223372036854775807 ∧
                        (
                          (ByteArray.size ((s148 ++ (ByteArray.mk #[32])) ++ s209) + ByteArray.size (ByteArray.mk #[32]) : Nat) : Int)
                        ≤ 9223372036854775807 ∧ Calls Tryz.prog F.ref29_int0 #[.int .i64 n203] w207 fun e211 w210 =>
                        ∃ s212 : ByteArray, e211 = .returned (.string s212) ∧ Chg W201 w207 w210 ∧
                        (
                          (
                            ByteArray.size (((s148 ++ (ByteArray.mk #[32])) ++ s209) ++ (ByteArray.mk #[32])) + ByteArray.size s212 : Nat)
                          : Int)
                        ≤ 9223372036854775807 ∧ (
                          (
                            ByteArray.size ((((s148 ++ (ByteArray.mk #[32])) ++ s209) ++ (ByteArray.mk #[32])) ++ s212) + ByteArray.size (ByteArray.mk #[32]) : Nat)
                          : Int)
                        ≤ 9223372036854775807 ∧ Calls Tryz.prog F.ref12_Show #[.agg l204.toArray] w210 fun e214 w213 =>
                        ∃ s215 : ByteArray, e214 = .returned (.string s215) ∧ Chg W201 w210 w213 ∧
                        (
                          (
                            ByteArray.size (
                              ((((s148 ++ (ByteArray.mk #[32])) ++ s209) ++ (ByteArray.mk #[32])) ++ s212) ++ (ByteArray.mk #[32]))
                            + ByteArray.size s215 : Nat)
                          : Int)
                        ≤ 9223372036854775807 ∧ (
                          (
                            ByteArray.size (
                              (
                                ((((s148 ++ (ByteArray.mk #[32])) ++ s209) ++ (ByteArray.mk #[32])) ++ s212) ++ (ByteArray.mk #[32]))
                              ++ s215)
                            + ByteArray.size (ByteArray.mk #[32]) : Nat)
                          : Int)
                        ≤ 9223372036854775807 ∧ Calls Tryz.prog F.ref29_num #[.int .u64 (IntKind.wrap .u64 n205)] w213 fun e217 w216 =>
                        ∃ s218 : ByteArray, e217 = .returned (.string s218) ∧ Chg W201 w213 w216 ∧
                        (
                          (
                            ByteArray.size (
                              (
                                (
                                  ((((s148 ++ (ByteArray.mk #[32])) ++ s209) ++ (ByteArray.mk #[32])) ++ s212) ++ (ByteArray.mk #[32]))
                                ++ s215)
                              ++ (ByteArray.mk #[32]))
                            + ByteArray.size s218 : Nat)
                          : Int)
                        ≤ 9223372036854775807 ∧ (
                          (
                            ByteArray.size (
                              (
                                (
                                  (
                                    ((((s148 ++ (ByteArray.mk #[32])) ++ s209) ++ (ByteArray.mk #[32])) ++ s212) ++ (ByteArray.mk #[32]))
                                  ++ s215)
                                ++ (ByteArray.mk #[32]))
                              ++ s218)
                            + ByteArray.size (ByteArray.mk #[32]) : Nat)
                          : Int)
                        ≤ 9223372036854775807 ∧ Calls Tryz.prog F.ref29_int0 #[.int .i64 n206] w216 fun e220 w219 =>
                        ∃ s221 : ByteArray, e220 = .returned (.string s221) ∧ Chg W201 w216 w219 ∧
                        (
                          (
                            ByteArray.size (
                              (
                                (
                                  (
                                    (
                                      ((((s148 ++ (ByteArray.mk #[32])) ++ s209) ++ (ByteArray.mk #[32])) ++ s212) ++ (ByteArray.mk #[32]))
                                    ++ s215)
                                  ++ (ByteArray.mk #[32]))
                                ++ s218)
                              ++ (ByteArray.mk #[32]))
                            + ByteArray.size s221 : Nat)
                          : Int)
                        ≤ 9223372036854775807 ∧ k157 (
                          (
                            (
                              (
                                (
                                  (
                                    ((((s148 ++ (ByteArray.mk #[32])) ++ s209) ++ (ByteArray.mk #[32])) ++ s212) ++ (ByteArray.mk #[32]))
                                  ++ s215)
                                ++ (ByteArray.mk #[32]))
                              ++ s218)
                            ++ (ByteArray.mk #[32]))
                          ++ s221)
                        w219)
                      ∧ (
                        ((n158 : Int) == 5) = false → Jn (
                          fun k222 : Bool → World → Prop => (((n158 : Int) == 6) = true → k222 ((n158 : Int) == 6) w154) ∧
                          (((n158 : Int) == 6) = false → k222 ((n158 : Int) == 12) w154))
                        (
                          fun (b223 : Bool) (w224 : World) => (
                            b223 = true → (
                              (
                                ByteArray.size s148 + ByteArray.size ((((ByteArray.mk #[32]) ++ s153) ++ (ByteArray.mk #[32])) ++ s156) : Nat)
                              : Int)
                            ≤ 9223372036854775807 ∧ k157 (s148 ++ ((((ByteArray.mk #[32]) ++ s153) ++ (ByteArray.mk #[32])) ++ s156)) w224)
                          ∧ (
                            b223 = false → Jn (
                              fun k225 : Bool → World → Prop => (((n158 : Int) == 7) = true → k225 ((n158 : Int) == 7) w224) ∧
                              (((n158 : Int) == 7) = false → k225 ((n158 : Int) == 9) w224))
                            (
                              fun (b226 : Bool) (w227 : World) => (
                                b226 = true → (
                                  (
                                    ByteArray.size s148 + ByteArray.size ((((ByteArray.mk #[32]) ++ s153) ++ (ByteArray.mk #[32])) ++ s156) : Nat)
                                  : Int)
                                ≤ 9223372036854775807 ∧ ∃ b228 : Bool, w227.cell? (Addr.add ⟨w.heap.size, 0, none⟩ 5) = some (.bool b228) ∧
                                Calls Tryz.prog F.ref29_on #[.bool b228] w227 fun e230 w229 => ∃ s231 : ByteArray, e230 = .returned (.string s231) ∧
                                (
                                  (
                                    ByteArray.size (s148 ++ ((((ByteArray.mk #[32]) ++ s153) ++ (ByteArray.mk #[32])) ++ s156)) + ByteArray.size s231 : Nat)
                                  : Int)
                                ≤ 9223372036854775807 ∧ k157 ((s148 ++ ((((ByteArray.mk #[32]) ++ s153) ++ (ByteArray.mk #[32])) ++ s156)) ++ s231) w229)
                              ∧ (
                                b226 = false → Jn (
                                  fun k232 : Bool → World → Prop => (((n158 : Int) == 8) = true → k232 ((n158 : Int) == 8) w227) ∧
                                  (((n158 : Int) == 8) = false → k232 ((n158 : Int) == 13) w227))
                                (
                                  fun (b233 : Bool) (w234 : World) => (
                                    b233 = true → (
                                      (
                                        ByteArray.size s148 + ByteArray.size ((((ByteArray.mk #[32]) ++ s153) ++ (ByteArray.mk #[32])) ++ s156) : Nat)
                                      : Int)
                                    ≤ 9223372036854775807 ∧ (
                                      (
                                        ByteArray.size (s148 ++ ((((ByteArray.mk #[32]) ++ s153) ++ (ByteArray.mk #[32])) ++ s156)) + ByteArray.size (ByteArray.mk #[32]) : Nat)
                                      : Int)
                                    ≤ 9223372036854775807 ∧ ∃ n235 : Int, w234.cell? (Addr.add ⟨w.heap.size, 0, none⟩ 4) = some (.int .u64 n235) ∧
                                    Calls Tryz.prog F.ref29_num #[.int .u64 n235] w234 fun e237 w236 => ∃ s238 : ByteArray, e237 = .returned (.string s238) ∧
                                    (
                                      (
                                        ByteArray.size (
                                          (s148 ++ ((((ByteArray.mk #[32]) ++ s153) ++ (ByteArray.mk #[32])) ++ s156)) ++ (ByteArray.mk #[32]))
                                        + ByteArray.size s238 : Nat)
                                      : Int)
                                    ≤ 9223372036854775807 ∧ k157 (
                                      (
                                        (s148 ++ ((((ByteArray.mk #[32]) ++ s153) ++ (ByteArray.mk #[32])) ++ s156)) ++ (ByteArray.mk #[32]))
                                      ++ s238)
                                    w236)
                                  ∧ (
                                    b233 = false → ∃ (I239 : ByteArray → Int → World → Prop) (μ240 : ByteArray → Int → World → Nat), I239 s148 0 w234 ∧
                                    ∀ (s241 : ByteArray) (n242 : Int) (w243 : World), I239 s241 n242 w243 → ∃ s244 : Sl, w243.cell? (Addr.add ⟨w.heap.size, 0, none⟩ 50) = some (.slice s244.a s244.len s244.cap) ∧
                                    (
                                      (decide ((n242 : Int) < ((s244.len : Nat) : Int))) = true → ((ByteArray.size s241 + ByteArray.size (ByteArray.mk #[32]) : Nat) : Int) ≤ 9223372036854775807 ∧
                                      ∃ s245 : Sl, w243.cell? (Addr.add ⟨w.heap.size, 0, none⟩ 50) = some (.slice s245.a s245.len s245.cap) ∧
                                      ∃ a246 : Addr, s245.a = some a246 ∧ ((0 : Int) ≤ n242 ∧ n242 < ((s245.len : Nat) : Int)) ∧
                                      ∃ n247 : Int, w243.cell? (a246.add (Int.toNat n242 * 1)) = some (.int .i64 n247) ∧
                                      Calls Tryz.prog F.ref29_int0 #[.int .i64 n247] w243 fun e249 w248 => ∃ s250 : ByteArray, e249 = .returned (.string s250) ∧
                                      ((ByteArray.size (s241 ++ (ByteArray.mk #[32])) + ByteArray.size s250 : Nat) : Int) ≤ 9223372036854775807 ∧
                                      I239 ((s241 ++ (ByteArray.mk #[32])) ++ s250) (IntKind.wrap .i64 (n242 + 1)) w248 ∧
                                      μ240 ((s241 ++ (ByteArray.mk #[32])) ++ s250) (IntKind.wrap .i64 (n242 + 1)) w248 < μ240 s241 n242 w243)
                                    ∧ ((decide ((n242 : Int) < ((s244.len : Nat) : Int))) = false → k157 s241 w243))
                                  )
                                )
                              )
                            )
                          )
                        )
                      )
                    )
                  )
                )
              )
            (
              fun (s251 : ByteArray) (w252 : World) => (
                (decide ((((ByteArray.size s251 : Nat) : Int) : Int) > 4200)) = true → Q (.string (ByteArray.mk #[])) w252)
              ∧ ((decide ((((ByteArray.size s251 : Nat) : Int) : Int) > 4200)) = false → Q (.string s251) w252))
            )
          )
        )
      )
    ∧ (
      (decide ((n129 : Int) > 14)) = false → ¬ W4 (⟨w.heap.size, 0, none⟩ : Addr).block ∧
      ∃ l253 : List Value, rdCells w3 ⟨w.heap.size, 0, none⟩ 0 51 = some l253 ∧
      ¬ W4 (⟨w.heap.size, 0, none⟩ : Addr).block ∧ ∃ l254 : List Value, rdCells w3 ⟨w.heap.size, 0, none⟩ 0 51 = some l254 ∧
      Calls Tryz.prog F.ref29_Bare #[.agg l254.toArray] w3 fun e256 w255 => ∃ c257 : Array Value, e256 = .returned (.agg c257) ∧
      Chg W4 w3 w255 ∧ Calls Tryz.prog F.ref29_Same #[.agg l253.toArray, .agg c257] w255 fun e259 w258 =>
      ∃ b260 : Bool, e259 = .returned (.bool b260) ∧ Jn (
        fun k261 : Bool → World → Prop => ((!b260) = true → k261 true w258) ∧ (
          (!b260) = false → ∃ l262 : List Value, rdCells w258 ((Addr.add ⟨w.heap.size, 0, none⟩ 6).add 1) 0 17 = some l262 ∧
          Calls Tryz.prog F.ref12_Good #[.agg l262.toArray] w258 fun e264 w263 => ∃ b265 : Bool, e264 = .returned (.bool b265) ∧
          k261 (!b265) w263)
        )
      (
        fun (b266 : Bool) (w267 : World) => Jn (
          fun k268 : Bool → World → Prop => (b266 = true → k268 true w267) ∧ (
            b266 = false → ∃ l269 : List Value, rdCells w267 ((Addr.add ⟨w.heap.size, 0, none⟩ 29).add 1) 0 17 = some l269 ∧
            Calls Tryz.prog F.ref12_Good #[.agg l269.toArray] w267 fun e271 w270 => ∃ b272 : Bool, e271 = .returned (.bool b272) ∧
            k268 (!b272) w270)
          )
        (
          fun (b273 : Bool) (w274 : World) => (b273 = true → Q (.string (ByteArray.mk #[])) w274) ∧
          (
            b273 = false → Nx (w274.drew) fun w275 => ∃ W276 : Nat → Prop, ¬ W276 (⟨w.heap.size, 0, none⟩ : Addr).block ∧
            ∃ n277 : Int, w275.cell? ⟨w.heap.size, 0, none⟩ = some (.int .i64 n277) ∧
            ∃ a278 : Addr, (some ⟨w1.heap.size, 0, none⟩) = some a278 ∧ ((0 : Int) ≤ n277 ∧ n277 < ((15 : Nat) : Int)) ∧
            ¬ W276 (a278.add (Int.toNat n277 * 1)).block ∧ ∃ s279 : ByteArray, w275.cell? (a278.add (Int.toNat n277 * 1)) = some (.string s279) ∧
            ¬ W276 (Addr.add ⟨w.heap.size, 0, none⟩ 2).block ∧ ∃ n280 : Int, w275.cell? (Addr.add ⟨w.heap.size, 0, none⟩ 2) = some (.int .i64 n280) ∧
            ¬ W276 (Addr.add ⟨w.heap.size, 0, none⟩ 3).block ∧ ∃ n281 : Int, w275.cell? (Addr.add ⟨w.heap.size, 0, none⟩ 3) = some (.int .i64 n281) ∧
            Calls Tryz.prog F.ref29_int0 #[.int .i64 n280] w275 fun e283 w282 => ∃ s284 : ByteArray, e283 = .returned (.string s284) ∧
            Chg W276 w275 w282 ∧ ((ByteArray.size (ByteArray.mk #[32]) + ByteArray.size s284 : Nat) : Int) ≤ 9223372036854775807 ∧
            ((ByteArray.size ((ByteArray.mk #[32]) ++ s284) + ByteArray.size (ByteArray.mk #[32]) : Nat) : Int) ≤ 9223372036854775807 ∧
            Calls Tryz.prog F.ref29_int0 #[.int .i64 n281] w282 fun e286 w285 => ∃ s287 : ByteArray, e286 = .returned (.string s287) ∧
            Chg W276 w282 w285 ∧ (
              (ByteArray.size (((ByteArray.mk #[32]) ++ s284) ++ (ByteArray.mk #[32])) + ByteArray.size s287 : Nat) : Int)
            ≤ 9223372036854775807 ∧ Jn (
              fun k288 : ByteArray → World → Prop => ∃ n289 : Int, w285.cell? ⟨w.heap.size, 0, none⟩ = some (.int .i64 n289) ∧
              (
                ((n289 : Int) == 1) = true → ((ByteArray.size s279 + ByteArray.size (ByteArray.mk #[32]) : Nat) : Int) ≤ 9223372036854775807 ∧
                ∃ s290 : Sl, w285.cell? (Addr.add ⟨w.heap.size, 0, none⟩ 1) = some (.slice s290.a s290.len s290.cap) ∧
                Calls Tryz.prog F.ref29_hex #[.slice s290.a s290.len s290.cap] w285 fun e292 w291 =>
                ∃ s293 : ByteArray, e292 = .returned (.string s293) ∧ ((ByteArray.size (s279 ++ (ByteArray.mk #[32])) + ByteArray.size s293 : Nat) : Int) ≤ 9223372036854775807 ∧
                k288 ((s279 ++ (ByteArray.mk #[32])) ++ s293) w291)
              ∧ (
                ((n289 : Int) == 1) = false → (
                  ((n289 : Int) == 2) = true → ((ByteArray.size s279 + ByteArray.size (ByteArray.mk #[32]) : Nat) : Int) ≤ 9223372036854775807 ∧
                  ∃ n294 : Int, w285.cell? (Addr.add ⟨w.heap.size, 0, none⟩ 4) = some (.int .u64 n294) ∧
                  Calls Tryz.prog F.ref29_num #[.int .u64 n294] w285 fun e296 w295 => ∃ s297 : ByteArray, e296 = .returned (.string s297) ∧
                  ((ByteArray.size (s279 ++ (ByteArray.mk #[32])) + ByteArray.size s297 : Nat) : Int) ≤ 9223372036854775807 ∧
                  k288 ((s279 ++ (ByteArray.mk #[32])) ++ s297) w295)
                ∧ (
                  ((n289 : Int) == 2) = false → (
                    ((n289 : Int) == 3) = true → ∃ l298 : List Value, rdCells w285 (Addr.add ⟨w.heap.size, 0, none⟩ 6) 0 23 = some l298 ∧
                    Nx (
                      w285.alloc (
                        .cells #[.int .i64 0, .bool false, .int .u8 0, .int .u8 0, .int .u8 0, .int .u8 0, .int .u8 0, .int .u8 0, .int .u8 0, .int .u8 0, .int .u8 0, .int .u8 0, .int .u8 0, .int .u8 0, .int .u8 0, .int .u8 0, .int .u8 0, .int .u8 0, .int .u16 0, .int .u8 0, .int .i64 0, .int .u64 0, .slice none 0 0] Ty.api_Service)
                      )
                    fun w299 => StoreOk w299 ⟨w285.heap.size, 0, none⟩ (Array.toList l298.toArray) ∧
                    Array.size l298.toArray = 23 ∧ Nx (setCells w299 ⟨w285.heap.size, 0, none⟩ 0 (Array.toList l298.toArray)) fun w300 =>
                    Nx (w300.drew) fun w301 => ∃ W302 : Nat → Prop, ((ByteArray.size s279 + ByteArray.size (ByteArray.mk #[32]) : Nat) : Int) ≤ 9223372036854775807 ∧
                    ¬ W302 (⟨w285.heap.size, 0, none⟩ : Addr).block ∧ ∃ n303 : Int, w301.cell? ⟨w285.heap.size, 0, none⟩ = some (.int .i64 n303) ∧
                    ¬ W302 (Addr.add ⟨w285.heap.size, 0, none⟩ 1).block ∧ ∃ l304 : List Value, rdCells w301 (Addr.add ⟨w285.heap.size, 0, none⟩ 1) 0 17 = some l304 ∧
                    ¬ W302 (Addr.add ⟨w285.heap.size, 0, none⟩ 18).block ∧ ∃ n305 : Int, w301.cell? (Addr.add ⟨w285.heap.size, 0, none⟩ 18) = some (.int .u16 n305) ∧
                    ¬ W302 (Addr.add ⟨w285.heap.size, 0, none⟩ 19).block ∧ ∃ n306 : Int, w301.cell? (Addr.add ⟨w285.heap.size, 0, none⟩ 19) = some (.int .u8 n306) ∧
                    ¬ W302 (Addr.add ⟨w285.heap.size, 0, none⟩ 20).block ∧ ∃ n307 : Int, w301.cell? (Addr.add ⟨w285.heap.size, 0, none⟩ 20) = some (.int .i64 n307) ∧
                    ¬ W302 (Addr.add ⟨w285.heap.size, 0, none⟩ 21).block ∧ ∃ n308 : Int, w301.cell? (Addr.add ⟨w285.heap.size, 0, none⟩ 21) = some (.int .u64 n308) ∧
                    Calls Tryz.prog F.ref29_int0 #[.int .i64 n303] w301 fun e310 w309 => ∃ s311 : ByteArray, e310 = .returned (.string s311) ∧
                    Chg W302 w301 w309 ∧ ((ByteArray.size (s279 ++ (ByteArray.mk #[32])) + ByteArray.size s311 : Nat) : Int) ≤ 9223372036854775807 ∧
                    (
                      (ByteArray.size ((s279 ++ (ByteArray.mk #[32])) ++ s311) + ByteArray.size (ByteArray.mk #[32]) : Nat) : Int)
                    ≤ 9223372036854775807 ∧ Calls Tryz.prog F.ref12_Show #[.agg l304.toArray] w309 fun e313 w312 =>
                    ∃ s314 : ByteArray, e313 = .returned (.string s314) ∧ Chg W302 w309 w312 ∧
                    (
                      (
                        ByteArray.size (((s279 ++ (ByteArray.mk #[32])) ++ s311) ++ (ByteArray.mk #[32])) + ByteArray.size s314 : Nat)
                      : Int)
                    ≤ 9223372036854775807 ∧ (
                      (
                        ByteArray.size ((((s279 ++ (ByteArray.mk #[32])) ++ s311) ++ (ByteArray.mk #[32])) ++ s314) + ByteArray.size (ByteArray.mk #[32]) : Nat)
                      : Int)
                    ≤ 9223372036854775807 ∧ Calls Tryz.prog F.ref29_num #[.int .u64 (IntKind.wrap .u64 n305)] w312 fun e316 w315 =>
                    ∃ s317 : ByteArray, e316 = .returned (.string s317) ∧ Chg W302 w312 w315 ∧
                    (
                      (
                        ByteArray.size (
                          ((((s279 ++ (ByteArray.mk #[32])) ++ s311) ++ (ByteArray.mk #[32])) ++ s314) ++ (ByteArray.mk #[32]))
                        + ByteArray.size s317 : Nat)
                      : Int)
                    ≤ 9223372036854775807 ∧ (
                      (
                        ByteArray.size (
                          (
                            ((((s279 ++ (ByteArray.mk #[32])) ++ s311) ++ (ByteArray.mk #[32])) ++ s314) ++ (ByteArray.mk #[32]))
                          ++ s317)
                        + ByteArray.size (ByteArray.mk #[32]) : Nat)
                      : Int)
                    ≤ 9223372036854775807 ∧ Calls Tryz.prog F.ref29_num #[.int .u64 (IntKind.wrap .u64 n306)] w315 fun e319 w318 =>
                    ∃ s320 : ByteArray, e319 = .returned (.string s320) ∧ Chg W302 w315 w318 ∧
                    (
                      (
                        ByteArray.size (
                          (
                            (
                              ((((s279 ++ (ByteArray.mk #[32])) ++ s311) ++ (ByteArray.mk #[32])) ++ s314) ++ (ByteArray.mk #[32]))
                            ++ s317)
                          ++ (ByteArray.mk #[32]))
                        + ByteArray.size s320 : Nat)
                      : Int)
                    ≤ 9223372036854775807 ∧ (
                      (
                        ByteArray.size (
                          (
                            (
                              (
                                ((((s279 ++ (ByteArray.mk #[32])) ++ s311) ++ (ByteArray.mk #[32])) ++ s314) ++ (ByteArray.mk #[32]))
                              ++ s317)
                            ++ (ByteArray.mk #[32]))
                          ++ s320)
                        + ByteArray.size (ByteArray.mk #[32]) : Nat)
                      : Int)
                    ≤ 9223372036854775807 ∧ Calls Tryz.prog F.ref29_int0 #[.int .i64 n307] w318 fun e322 w321 =>
                    ∃ s323 : ByteArray, e322 = .returned (.string s323) ∧ Chg W302 w318 w321 ∧
                    (
                      (
                        ByteArray.size (
                          (
                            (
                              (
                                (
                                  ((((s279 ++ (ByteArray.mk #[32])) ++ s311) ++ (ByteArray.mk #[32])) ++ s314) ++ (ByteArray.mk #[32]))
                                ++ s317)
                              ++ (ByteArray.mk #[32]))
                            ++ s320)
                          ++ (ByteArray.mk #[32]))
                        + ByteArray.size s323 : Nat)
                      : Int)
                    ≤ 9223372036854775807 ∧ (
                      (
                        ByteArray.size (
                          (
                            (
                              (
                                (
                                  (
                                    ((((s279 ++ (ByteArray.mk #[32])) ++ s311) ++ (ByteArray.mk #[32])) ++ s314) ++ (ByteArray.mk #[32]))
                                  ++ s317)
                                ++ (ByteArray.mk #[32]))
                              ++ s320)
                            ++ (ByteArray.mk #[32]))
                          ++ s323)
                        + ByteArray.size (ByteArray.mk #[32]) : Nat)
                      : Int)
                    ≤ 9223372036854775807 ∧ Calls Tryz.prog F.ref29_num #[.int .u64 n308] w321 fun e325 w324 =>
                    ∃ s326 : ByteArray, e325 = .returned (.string s326) ∧ Chg W302 w321 w324 ∧
                    (
                      (
                        ByteArray.size (
                          (
                            (
                              (
                                (
                                  (
                                    (
                                      ((((s279 ++ (ByteArray.mk #[32])) ++ s311) ++ (ByteArray.mk #[32])) ++ s314) ++ (ByteArray.mk #[32]))
                                    ++ s317)
                                  ++ (ByteArray.mk #[32]))
                                ++ s320)
                              ++ (ByteArray.mk #[32]))
                            ++ s323)
                          ++ (ByteArray.mk #[32]))
                        + ByteArray.size s326 : Nat)
                      : Int)
                    ≤ 9223372036854775807 ∧ k288 (
                      (
                        (
                          (
                            (
                              (
                                (
                                  (
                                    ((((s279 ++ (ByteArray.mk #[32])) ++ s311) ++ (ByteArray.mk #[32])) ++ s314) ++ (ByteArray.mk #[32]))
                                  ++ s317)
                                ++ (ByteArray.mk #[32]))
                              ++ s320)
                            ++ (ByteArray.mk #[32]))
                          ++ s323)
                        ++ (ByteArray.mk #[32]))
                      ++ s326)
                    w324)
                  ∧ (
                    ((n289 : Int) == 3) = false → (
                      ((n289 : Int) == 4) = true → ((ByteArray.size s279 + ByteArray.size (ByteArray.mk #[32]) : Nat) : Int) ≤ 9223372036854775807 ∧
                      ∃ n327 : Int, w285.cell? (Addr.add ⟨w.heap.size, 0, none⟩ 2) = some (.int .i64 n327) ∧
                      Calls Tryz.prog F.ref29_int0 #[.int .i64 n327] w285 fun e329 w328 => ∃ s330 : ByteArray, e329 = .returned (.string s330) ∧
                      ((ByteArray.size (s279 ++ (ByteArray.mk #[32])) + ByteArray.size s330 : Nat) : Int) ≤ 9223372036854775807 ∧
                      k288 ((s279 ++ (ByteArray.mk #[32])) ++ s330) w328)
                    ∧ (
                      ((n289 : Int) == 4) = false → (
                        ((n289 : Int) == 5) = true → Nx (w285.drew) fun w331 => ∃ W332 : Nat → Prop, ((ByteArray.size s279 + ByteArray.size (ByteArray.mk #[32]) : Nat) : Int) ≤ 9223372036854775807 ∧
                        ¬ W332 (Addr.add ⟨w.heap.size, 0, none⟩ 2).block ∧ ∃ n333 : Int, w331.cell? (Addr.add ⟨w.heap.size, 0, none⟩ 2) = some (.int .i64 n333) ∧
                        ¬ W332 (Addr.add ⟨w.heap.size, 0, none⟩ 29).block ∧ ∃ n334 : Int, w331.cell? (Addr.add ⟨w.heap.size, 0, none⟩ 29) = some (.int .i64 n334) ∧
                        ¬ W332 ((Addr.add ⟨w.heap.size, 0, none⟩ 29).add 1).block ∧ ∃ l335 : List Value, rdCells w331 ((Addr.add ⟨w.heap.size, 0, none⟩ 29).add 1) 0 17 = some l335 ∧
                        ¬ W332 ((Addr.add ⟨w.heap.size, 0, none⟩ 29).add 18).block ∧ ∃ n336 : Int, w331.cell? ((Addr.add ⟨w.heap.size, 0, none⟩ 29).add 18) = some (.int .u16 n336) ∧
                        ¬ W332 ((Addr.add ⟨w.heap.size, 0, none⟩ 29).add 19).block ∧ ∃ n337 : Int, w331.cell? ((Addr.add ⟨w.heap.size, 0, none⟩ 29).add 19) = some (.int .i64 n337) ∧
                        Calls Tryz.prog F.ref29_int0 #[.int .i64 n333] w331 fun e339 w338 => ∃ s340 : ByteArray, e339 = .returned (.string s340) ∧
                        Chg W332 w331 w338 ∧ ((ByteArray.size (s279 ++ (ByteArray.mk #[32])) + ByteArray.size s340 : Nat) : Int) ≤ 9223372036854775807 ∧
                        (
                          (ByteArray.size ((s279 ++ (ByteArray.mk #[32])) ++ s340) + ByteArray.size (ByteArray.mk #[32]) : Nat) : Int)
                        ≤ 9223372036854775807 ∧ Calls Tryz.prog F.ref29_int0 #[.int .i64 n334] w338 fun e342 w341 =>
                        ∃ s343 : ByteArray, e342 = .returned (.string s343) ∧ Chg W332 w338 w341 ∧
                        (
                          (
                            ByteArray.size (((s279 ++ (ByteArray.mk #[32])) ++ s340) ++ (ByteArray.mk #[32])) + ByteArray.size s343 : Nat)
                          : Int)
                        ≤ 9223372036854775807 ∧ (
                          (
                            ByteArray.size ((((s279 ++ (ByteArray.mk #[32])) ++ s340) ++ (ByteArray.mk #[32])) ++ s343) + ByteArray.size (ByteArray.mk #[32]) : Nat)
                          : Int)
                        ≤ 9223372036854775807 ∧ Calls Tryz.prog F.ref12_Show #[.agg l335.toArray] w341 fun e345 w344 =>
                        ∃ s346 : ByteArray, e345 = .returned (.string s346) ∧ Chg W332 w341 w344 ∧
                        (
                          (
                            ByteArray.size (
                              ((((s279 ++ (ByteArray.mk #[32])) ++ s340) ++ (ByteArray.mk #[32])) ++ s343) ++ (ByteArray.mk #[32]))
                            + ByteArray.size s346 : Nat)
                          : Int)
                        ≤ 9223372036854775807 ∧ (
                          (
                            ByteArray.size (
                              (
                                ((((s279 ++ (ByteArray.mk #[32])) ++ s340) ++ (ByteArray.mk #[32])) ++ s343) ++ (ByteArray.mk #[32]))
                              ++ s346)
                            + ByteArray.size (ByteArray.mk #[32]) : Nat)
                          : Int)
                        ≤ 9223372036854775807 ∧ Calls Tryz.prog F.ref29_num #[.int .u64 (IntKind.wrap .u64 n336)] w344 fun e348 w347 =>
                        ∃ s349 : ByteArray, e348 = .returned (.string s349) ∧ Chg W332 w344 w347 ∧
                        (
                          (
                            ByteArray.size (
                              (
                                (
                                  ((((s279 ++ (ByteArray.mk #[32])) ++ s340) ++ (ByteArray.mk #[32])) ++ s343) ++ (ByteArray.mk #[32]))
                                ++ s346)
                              ++ (ByteArray.mk #[32]))
                            + ByteArray.size s349 : Nat)
                          : Int)
                        ≤ 9223372036854775807 ∧ (
                          (
                            ByteArray.size (
                              (
                                (
                                  (
                                    ((((s279 ++ (ByteArray.mk #[32])) ++ s340) ++ (ByteArray.mk #[32])) ++ s343) ++ (ByteArray.mk #[32]))
                                  ++ s346)
                                ++ (ByteArray.mk #[32]))
                              ++ s349)
                            + ByteArray.size (ByteArray.mk #[32]) : Nat)
                          : Int)
                        ≤ 9223372036854775807 ∧ Calls Tryz.prog F.ref29_int0 #[.int .i64 n337] w347 fun e351 w350 =>
                        ∃ s352 : ByteArray, e351 = .returned (.string s352) ∧ Chg W332 w347 w350 ∧
                        (
                          (
                            ByteArray.size (
                              (
                                (
                                  (
                                    (
                                      ((((s279 ++ (ByteArray.mk #[32])) ++ s340) ++ (ByteArray.mk #[32])) ++ s343) ++ (ByteArray.mk #[32]))
                                    ++ s346)
                                  ++ (ByteArray.mk #[32]))
                                ++ s349)
                              ++ (ByteArray.mk #[32]))
                            + ByteArray.size s352 : Nat)
                          : Int)
                        ≤ 9223372036854775807 ∧ k288 (
                          (
                            (
                              (
                                (
                                  (
                                    ((((s279 ++ (ByteArray.mk #[32])) ++ s340) ++ (ByteArray.mk #[32])) ++ s343) ++ (ByteArray.mk #[32]))
                                  ++ s346)
                                ++ (ByteArray.mk #[32]))
                              ++ s349)
                            ++ (ByteArray.mk #[32]))
                          ++ s352)
                        w350)
                      ∧ (
                        ((n289 : Int) == 5) = false → Jn (
                          fun k353 : Bool → World → Prop => (((n289 : Int) == 6) = true → k353 ((n289 : Int) == 6) w285) ∧
                          (((n289 : Int) == 6) = false → k353 ((n289 : Int) == 12) w285))
                        (
                          fun (b354 : Bool) (w355 : World) => (
                            b354 = true → (
                              (
                                ByteArray.size s279 + ByteArray.size ((((ByteArray.mk #[32]) ++ s284) ++ (ByteArray.mk #[32])) ++ s287) : Nat)
                              : Int)
                            ≤ 9223372036854775807 ∧ k288 (s279 ++ ((((ByteArray.mk #[32]) ++ s284) ++ (ByteArray.mk #[32])) ++ s287)) w355)
                          ∧ (
                            b354 = false → Jn (
                              fun k356 : Bool → World → Prop => (((n289 : Int) == 7) = true → k356 ((n289 : Int) == 7) w355) ∧
                              (((n289 : Int) == 7) = false → k356 ((n289 : Int) == 9) w355))
                            (
                              fun (b357 : Bool) (w358 : World) => (
                                b357 = true → (
                                  (
                                    ByteArray.size s279 + ByteArray.size ((((ByteArray.mk #[32]) ++ s284) ++ (ByteArray.mk #[32])) ++ s287) : Nat)
                                  : Int)
                                ≤ 9223372036854775807 ∧ ∃ b359 : Bool, w358.cell? (Addr.add ⟨w.heap.size, 0, none⟩ 5) = some (.bool b359) ∧
                                Calls Tryz.prog F.ref29_on #[.bool b359] w358 fun e361 w360 => ∃ s362 : ByteArray, e361 = .returned (.string s362) ∧
                                (
                                  (
                                    ByteArray.size (s279 ++ ((((ByteArray.mk #[32]) ++ s284) ++ (ByteArray.mk #[32])) ++ s287)) + ByteArray.size s362 : Nat)
                                  : Int)
                                ≤ 9223372036854775807 ∧ k288 ((s279 ++ ((((ByteArray.mk #[32]) ++ s284) ++ (ByteArray.mk #[32])) ++ s287)) ++ s362) w360)
                              ∧ (
                                b357 = false → Jn (
                                  fun k363 : Bool → World → Prop => (((n289 : Int) == 8) = true → k363 ((n289 : Int) == 8) w358) ∧
                                  (((n289 : Int) == 8) = false → k363 ((n289 : Int) == 13) w358))
                                (
                                  fun (b364 : Bool) (w365 : World) => (
                                    b364 = true → (
                                      (
                                        ByteArray.size s279 + ByteArray.size ((((ByteArray.mk #[32]) ++ s284) ++ (ByteArray.mk #[32])) ++ s287) : Nat)
                                      : Int)
                                    ≤ 9223372036854775807 ∧ (
                                      (
                                        ByteArray.size (s279 ++ ((((ByteArray.mk #[32]) ++ s284) ++ (ByteArray.mk #[32])) ++ s287)) + ByteArray.size (ByteArray.mk #[32]) : Nat)
                                      : Int)
                                    ≤ 9223372036854775807 ∧ ∃ n366 : Int, w365.cell? (Addr.add ⟨w.heap.size, 0, none⟩ 4) = some (.int .u64 n366) ∧
                                    Calls Tryz.prog F.ref29_num #[.int .u64 n366] w365 fun e368 w367 => ∃ s369 : ByteArray, e368 = .returned (.string s369) ∧
                                    (
                                      (
                                        ByteArray.size (
                                          (s279 ++ ((((ByteArray.mk #[32]) ++ s284) ++ (ByteArray.mk #[32])) ++ s287)) ++ (ByteArray.mk #[32]))
                                        + ByteArray.size s369 : Nat)
                                      : Int)
                                    ≤ 9223372036854775807 ∧ k288 (
                                      (
                                        (s279 ++ ((((ByteArray.mk #[32]) ++ s284) ++ (ByteArray.mk #[32])) ++ s287)) ++ (ByteArray.mk #[32]))
                                      ++ s369)
                                    w367)
                                  ∧ (
                                    b364 = false → ∃ (I370 : ByteArray → Int → World → Prop) (μ371 : ByteArray → Int → World → Nat), I370 s279 0 w365 ∧
                                    ∀ (s372 : ByteArray) (n373 : Int) (w374 : World), I370 s372 n373 w374 → ∃ s375 : Sl, w374.cell? (Addr.add ⟨w.heap.size, 0, none⟩ 50) = some (.slice s375.a s375.len s375.cap) ∧
                                    (
                                      (decide ((n373 : Int) < ((s375.len : Nat) : Int))) = true → ((ByteArray.size s372 + ByteArray.size (ByteArray.mk #[32]) : Nat) : Int) ≤ 9223372036854775807 ∧
                                      ∃ s376 : Sl, w374.cell? (Addr.add ⟨w.heap.size, 0, none⟩ 50) = some (.slice s376.a s376.len s376.cap) ∧
                                      ∃ a377 : Addr, s376.a = some a377 ∧ ((0 : Int) ≤ n373 ∧ n373 < ((s376.len : Nat) : Int)) ∧
                                      ∃ n378 : Int, w374.cell? (a377.add (Int.toNat n373 * 1)) = some (.int .i64 n378) ∧
                                      Calls Tryz.prog F.ref29_int0 #[.int .i64 n378] w374 fun e380 w379 => ∃ s381 : ByteArray, e380 = .returned (.string s381) ∧
                                      ((ByteArray.size (s372 ++ (ByteArray.mk #[32])) + ByteArray.size s381 : Nat) : Int) ≤ 9223372036854775807 ∧
                                      I370 ((s372 ++ (ByteArray.mk #[32])) ++ s381) (IntKind.wrap .i64 (n373 + 1)) w379 ∧
                                      μ371 ((s372 ++ (ByteArray.mk #[32])) ++ s381) (IntKind.wrap .i64 (n373 + 1)) w379 < μ371 s372 n373 w374)
                                    ∧ ((decide ((n373 : Int) < ((s375.len : Nat) : Int))) = false → k288 s372 w374))
                                  )
                                )
                              )
                            )
                          )
                        )
                      )
                    )
                  )
                )
              )
            (
              fun (s382 : ByteArray) (w383 : World) => (
                (decide ((((ByteArray.size s382 : Nat) : Int) : Int) > 4200)) = true → Q (.string (ByteArray.mk #[])) w383)
              ∧ ((decide ((((ByteArray.size s382 : Nat) : Int) : Int) > 4200)) = false → Q (.string s382) w383))
            )
          )
        )
      )
    )
def A.ref29_Show : AT := (.seq (.reg []) (.seq (.reg []) (.seq (.seq (.drw 12 true ⟨[0, 1, 2, 4, 8, 24, 40, 72, 136, 256, 256, 1280, 2816, 4352, 8448, 20480, 32768, 98304, 163840, 294912, 557056, 1081344, 2621440, 4194304, 12582912, 20971520, 37748736, 71303168, 138412032], [0, 1, 2, 4, 8, 24, 40, 72, 128, 256, 256, 1280, 2816, 4352, 8448, 16384, 32768, 98304, 163840, 294912, 557056, 1081344, 2097152, 4194304, 12582912, 20971520, 37748736, 71303168, 138412032]⟩ [512, 1024, 2048, 4096, 8192, 16384, 32768, 65536, 131072, 262144, 524288, 1048576, 2097152, 4194304, 8388608, 16777216, 33554432, 67108864, 134217728, 268435456, 536870912, 1073741824, 2147483648, 4294967296, 8589934592, 17179869184, 34359738368, 68719476736, 137438953472] [2, 512, 1024, 2048, 4098, 12288, 20480, 36864, 65536, 131074, 131074, 655360, 1441792, 2228224, 4325376, 8388608, 16777218, 50331648, 83886080, 150994944, 285212672, 553648128, 1073741824, 2147483650, 6442450944, 10737418240, 19327352832, 36507222016, 70866960384] (.take 0 (.take 1 (.take 2 (.take 3 (.sp 12 (.take 4 (.take 5 (.take 6 (.take 7 (.take 8 (.take 9 (.take 10 (.take 11 (.tail [.run, .run, .run, .run, .split 5, .run, .run, .run, .run, .run, .run, .split 5, .run, .run, .run, .run, .run]))))))))) (.take 4 (.take 5 (.take 6 (.take 7 (.take 8 (.sp 17 (.take 9 (.take 10 (.take 11 (.tail [.run, .run, .run, .run, .split 5, .run, .run, .run, .run, .run, .run, .split 5, .run, .run, .run, .run, .run])))) (.take 9 (.take 10 (.eff 11 (.tail [.run, .run, .run, .run, .split 5, .run, .run, .run, .run, .run, .run, .split 5, .run, .run, .run, .run, .run])))))))))))))))) (.cond (.seq (.reg []) .leaf) .leaf)) (.seq (.drw 15 true ⟨[0, 0, 2, 5, 8, 0, 32, 64, 128, 256, 0, 1024, 2176, 4608, 4127, 32767], [0, 0, 2, 5, 8, 0, 32, 64, 128, 256, 0, 1024, 2048, 4608, 16, 8192]⟩ [274877906944, 549755813888, 1099511627776, 2199023255552, 4398046511104, 8796093022208, 17592186044416, 35184372088832, 70368744177664, 140737488355328, 281474976710656, 562949953421312, 1125899906842624, 2251799813685248, 16, 32] [8, 2, 549755813888, 1374389534720, 2199023255552, 2, 8796093022208, 17592186044416, 35184372088832, 70368744177664, 2, 281474976710656, 562949953421312, 1266637395197952, 4398046511104, 2251799813685248] (.take 0 (.take 1 (.take 2 (.take 3 (.take 4 (.take 5 (.take 6 (.take 10 (.take 11 (.eff 7 (.take 8 (.take 9 (.eff 12 (.take 13 (.take 14 (.tail [.run]))))))))))))))))) (.seq (.jk [(4, .str)] [] (.seq (.reg []) (.blk (.seq (.reg []) (.cond (.reg []) (.seq (.reg []) (.cond (.reg []) (.seq (.reg []) (.cond (.seq (.reg []) (.drw 32 true ⟨[0, 1, 0, 4, 8, 18, 32, 0, 128, 272, 576, 1024, 0, 4096, 8192, 16896, 34816, 65536, 0, 262144, 524288, 1081344, 2228224, 4194304, 0, 16777216, 35651584, 75497472, 134217728, 0, 536870912, 1140850688, 2415919104, 8589934591], [0, 1, 0, 4, 8, 18, 32, 0, 128, 256, 576, 1024, 0, 4096, 8192, 16384, 34816, 65536, 0, 262144, 524288, 1048576, 2228224, 4194304, 0, 16777216, 33554432, 75497472, 134217728, 0, 536870912, 1073741824, 2415919104, 4294967297]⟩ [1237940039285380274899124224, 2475880078570760549798248448, 4951760157141521099596496896, 9903520314283042199192993792, 19807040628566084398385987584, 39614081257132168796771975168, 79228162514264337593543950336, 158456325028528675187087900672, 316912650057057350374175801344, 633825300114114700748351602688, 1267650600228229401496703205376, 2535301200456458802993406410752, 5070602400912917605986812821504, 10141204801825835211973625643008, 20282409603651670423947251286016, 40564819207303340847894502572032, 81129638414606681695789005144064, 162259276829213363391578010288128, 324518553658426726783156020576256, 649037107316853453566312041152512, 1298074214633706907132624082305024, 2596148429267413814265248164610048, 5192296858534827628530496329220096, 10384593717069655257060992658440192, 20769187434139310514121985316880384, 41538374868278621028243970633760768, 83076749736557242056487941267521536, 166153499473114484112975882535043072, 332306998946228968225951765070086144, 664613997892457936451903530140172288, 1329227995784915872903807060280344576, 2658455991569831745807614120560689152, 5316911983139663491615228241121378304, 16] [16, 1237940039285380274899124224, 64, 4951760157141521099596496896, 9903520314283042199192993792, 22282920707136844948184236032, 39614081257132168796771975168, 64, 158456325028528675187087900672, 316912650057057350374175801344, 713053462628379038341895553024, 1267650600228229401496703205376, 64, 5070602400912917605986812821504, 10141204801825835211973625643008, 20282409603651670423947251286016, 43100120407759799650887908982784, 81129638414606681695789005144064, 64, 324518553658426726783156020576256, 649037107316853453566312041152512, 1298074214633706907132624082305024, 2758407706096627177656826174898176, 5192296858534827628530496329220096, 64, 20769187434139310514121985316880384, 41538374868278621028243970633760768, 93461343453626897313548933925961728, 166153499473114484112975882535043072, 64, 664613997892457936451903530140172288, 1329227995784915872903807060280344576, 2990762990516060714033565885630775296, 5316911983139663491615228241121378304] (.take 0 (.take 1 (.take 2 (.take 3 (.take 7 (.take 8 (.take 12 (.take 13 (.take 14 (.take 18 (.take 19 (.take 20 (.take 24 (.take 25 (.take 29 (.take 30 (.eff 4 (.take 5 (.take 6 (.eff 9 (.take 10 (.take 11 (.eff 15 (.take 16 (.take 17 (.eff 21 (.take 22 (.take 23 (.eff 26 (.take 27 (.take 28 (.eff 31 (.tail [.run, .run]))))))))))))))))))))))))))))))))))) (.seq (.reg []) (.cond (.reg []) (.seq (.reg []) (.cond (.drw 30 true ⟨[0, 1, 0, 4, 8, 18, 32, 0, 128, 256, 528, 1088, 2048, 0, 8192, 16384, 33792, 69632, 131072, 0, 524288, 1048576, 2097152, 4259840, 8650752, 16777216, 0, 67108864, 134217728, 276824064, 570425344, 2147483647], [0, 1, 0, 4, 8, 18, 32, 0, 128, 256, 512, 1088, 2048, 0, 8192, 16384, 32768, 69632, 131072, 0, 524288, 1048576, 2097152, 4194304, 8650752, 16777216, 0, 67108864, 134217728, 268435456, 570425344, 1073741825]⟩ [10889035741470030830827987437816582766592, 21778071482940061661655974875633165533184, 43556142965880123323311949751266331066368, 87112285931760246646623899502532662132736, 174224571863520493293247799005065324265472, 348449143727040986586495598010130648530944, 696898287454081973172991196020261297061888, 1393796574908163946345982392040522594123776, 2787593149816327892691964784081045188247552, 5575186299632655785383929568162090376495104, 11150372599265311570767859136324180752990208, 22300745198530623141535718272648361505980416, 44601490397061246283071436545296723011960832, 89202980794122492566142873090593446023921664, 178405961588244985132285746181186892047843328, 356811923176489970264571492362373784095686656, 713623846352979940529142984724747568191373312, 1427247692705959881058285969449495136382746624, 2854495385411919762116571938898990272765493248, 5708990770823839524233143877797980545530986496, 11417981541647679048466287755595961091061972992, 22835963083295358096932575511191922182123945984, 45671926166590716193865151022383844364247891968, 91343852333181432387730302044767688728495783936, 182687704666362864775460604089535377456991567872, 365375409332725729550921208179070754913983135744, 730750818665451459101842416358141509827966271488, 1461501637330902918203684832716283019655932542976, 2923003274661805836407369665432566039311865085952, 5846006549323611672814739330865132078623730171904, 11692013098647223345629478661730264157247460343808, 16] [16, 10889035741470030830827987437816582766592, 2, 43556142965880123323311949751266331066368, 87112285931760246646623899502532662132736, 196002643346460554954903773880698489798656, 348449143727040986586495598010130648530944, 2, 1393796574908163946345982392040522594123776, 2787593149816327892691964784081045188247552, 5575186299632655785383929568162090376495104, 11847270886719393543940850332344442050052096, 22300745198530623141535718272648361505980416, 2, 89202980794122492566142873090593446023921664, 178405961588244985132285746181186892047843328, 356811923176489970264571492362373784095686656, 758225336750041186812214421270044291203334144, 1427247692705959881058285969449495136382746624, 2, 5708990770823839524233143877797980545530986496, 11417981541647679048466287755595961091061972992, 22835963083295358096932575511191922182123945984, 45671926166590716193865151022383844364247891968, 94198347718593352149846873983666679001261277184, 182687704666362864775460604089535377456991567872, 2, 730750818665451459101842416358141509827966271488, 1461501637330902918203684832716283019655932542976, 2923003274661805836407369665432566039311865085952, 6211381958656337402365660539044202833537713307648, 11692013098647223345629478661730264157247460343808] (.take 0 (.take 1 (.take 2 (.take 3 (.take 7 (.take 8 (.take 9 (.take 13 (.take 14 (.take 15 (.take 19 (.take 20 (.take 21 (.take 22 (.take 26 (.take 27 (.take 28 (.eff 4 (.take 5 (.take 6 (.eff 10 (.take 11 (.take 12 (.eff 16 (.take 17 (.take 18 (.eff 23 (.take 24 (.take 25 (.eff 29 (.tail [.run, .run])))))))))))))))))))))))))))))))) (.seq (.jk [(164, .bool)] [1, 4, 5, 53] (.seq (.reg []) (.cond .leaf (.reg [])))) (.cond (.reg []) (.seq (.jk [(170, .bool)] [1, 4, 5, 53] (.seq (.reg []) (.cond .leaf (.reg [])))) (.cond (.reg []) (.seq (.jk [(180, .bool)] [1, 4, 5] (.seq (.reg []) (.cond .leaf (.reg [])))) (.cond (.reg []) (.seq (.reg []) (.blk (.loop [(4, .str), (7, (.int .i64))] [1] (.seq (.seq (.reg []) (.cond .leaf .leaf)) (.seq (.blk (.reg [])) (.reg []))))))))))))))))))))))))) (.seq (.seq (.reg []) (.cond (.seq (.reg []) .leaf) .leaf)) (.seq (.reg []) .leaf)))))))
theorem W.ref29_Show_eq (op : Array Value) (w : World) (Q : Value → World → Prop) : W.ref29_Show op w Q = DF Tryz.prog tk A.ref29_Show Tryz.f11 [.agg op] w Q := by kernel_rfl
theorem W.ref29_Show_ok (op : Array Value) (w : World) (Q : Value → World → Prop) (h : W.ref29_Show op w Q) : Calls Tryz.prog F.ref29_Show #[.agg op] w fun e w1 => ∃ v, e = .returned v ∧ Q v w1 :=
  calls_of_DF hmix Tryz.func11 (by kernel_rfl) (Eq.mp (W.ref29_Show_eq op w Q) h)

/-- stanchion/stanchionref29.Same -/
def W.ref29_Same (a : Array Value) (b : Array Value) (w : World) (Q : Value → World → Prop) : Prop :=
  Nx (w.alloc (.cells a Ty.api_Op)) fun w1 => Nx (w1.alloc (.cells b Ty.api_Op)) fun w2 =>
  Nx (w2.drew) fun w3 => ∃ W4 : Nat → Prop, ¬ W4 (Addr.add ⟨w.heap.size, 0, none⟩ 6).block ∧
  ∃ l5 : List Value, rdCells w3 (Addr.add ⟨w.heap.size, 0, none⟩ 6) 0 23 = some l5 ∧
  ¬ W4 (Addr.add ⟨w1.heap.size, 0, none⟩ 6).block ∧ ∃ l6 : List Value, rdCells w3 (Addr.add ⟨w1.heap.size, 0, none⟩ 6) 0 23 = some l6 ∧
  (
    Nx (
      w3.alloc (
        .cells #[.int .i64 0, .bool false, .int .u8 0, .int .u8 0, .int .u8 0, .int .u8 0, .int .u8 0, .int .u8 0, .int .u8 0, .int .u8 0, .int .u8 0, .int .u8 0, .int .u8 0, .int .u8 0, .int .u8 0, .int .u8 0, .int .u8 0, .int .u8 0, .int .u16 0, .int .u8 0, .int .i64 0, .int .u64 0, .slice none 0 0] Ty.api_Service)
      )
    fun w7 => Chg W4 w3 w7 ∧ Nx (
      w7.alloc (
        .cells #[.int .i64 0, .bool false, .int .u8 0, .int .u8 0, .int .u8 0, .int .u8 0, .int .u8 0, .int .u8 0, .int .u8 0, .int .u8 0, .int .u8 0, .int .u8 0, .int .u8 0, .int .u8 0, .int .u8 0, .int .u8 0, .int .u8 0, .int .u8 0, .int .u16 0, .int .u8 0, .int .i64 0, .int .u64 0, .slice none 0 0] Ty.api_Service)
      )
    fun w8 => Chg W4 w7 w8 ∧ StoreOk w8 ⟨w3.heap.size, 0, none⟩ (Array.toList l5.toArray) ∧
    Array.size l5.toArray = 23 ∧ Nx (setCells w8 ⟨w3.heap.size, 0, none⟩ 0 (Array.toList l5.toArray)) fun w9 =>
    Chg W4 w8 w9 ∧ StoreOk w9 ⟨w7.heap.size, 0, none⟩ (Array.toList l6.toArray) ∧
    Array.size l6.toArray = 23 ∧ Nx (setCells w9 ⟨w7.heap.size, 0, none⟩ 0 (Array.toList l6.toArray)) fun w10 =>
    ∃ n11 : Int, w10.cell? ⟨w3.heap.size, 0, none⟩ = some (.int .i64 n11) ∧ ∃ n12 : Int, w10.cell? ⟨w7.heap.size, 0, none⟩ = some (.int .i64 n12) ∧
    Jn (
      fun k13 : Bool → World → Prop => (((n11 : Int) != n12) = true → k13 true w10) ∧
      (
        ((n11 : Int) != n12) = false → ∃ l14 : List Value, rdCells w10 (Addr.add ⟨w3.heap.size, 0, none⟩ 1) 0 17 = some l14 ∧
        ∃ l15 : List Value, rdCells w10 (Addr.add ⟨w7.heap.size, 0, none⟩ 1) 0 17 = some l15 ∧
        ∃ b16 : Bool, AggEq Tryz.prog Ty.api_Addr l14.toArray l15.toArray b16 ∧ k13 (!b16) w10)
      )
    (
      fun (b17 : Bool) (w18 : World) => Jn (
        fun k19 : Bool → World → Prop => (b17 = true → k19 true w18) ∧ (
          b17 = false → ∃ n20 : Int, w18.cell? (Addr.add ⟨w3.heap.size, 0, none⟩ 18) = some (.int .u16 n20) ∧
          ∃ n21 : Int, w18.cell? (Addr.add ⟨w7.heap.size, 0, none⟩ 18) = some (.int .u16 n21) ∧
          k19 ((n20 : Int) != n21) w18)
        )
      (
        fun (b22 : Bool) (w23 : World) => Jn (
          fun k24 : Bool → World → Prop => (b22 = true → k24 true w23) ∧ (
            b22 = false → ∃ n25 : Int, w23.cell? (Addr.add ⟨w3.heap.size, 0, none⟩ 19) = some (.int .u8 n25) ∧
            ∃ n26 : Int, w23.cell? (Addr.add ⟨w7.heap.size, 0, none⟩ 19) = some (.int .u8 n26) ∧
            k24 ((n25 : Int) != n26) w23)
          )
        (
          fun (b27 : Bool) (w28 : World) => Jn (
            fun k29 : Bool → World → Prop => (b27 = true → k29 true w28) ∧ (
              b27 = false → ∃ n30 : Int, w28.cell? (Addr.add ⟨w3.heap.size, 0, none⟩ 20) = some (.int .i64 n30) ∧
              ∃ n31 : Int, w28.cell? (Addr.add ⟨w7.heap.size, 0, none⟩ 20) = some (.int .i64 n31) ∧
              k29 ((n30 : Int) != n31) w28)
            )
          (
            fun (b32 : Bool) (w33 : World) => Jn (
              fun k34 : Bool → World → Prop => (b32 = true → k34 true w33) ∧ (
                b32 = false → ∃ n35 : Int, w33.cell? (Addr.add ⟨w3.heap.size, 0, none⟩ 21) = some (.int .u64 n35) ∧
                ∃ n36 : Int, w33.cell? (Addr.add ⟨w7.heap.size, 0, none⟩ 21) = some (.int .u64 n36) ∧
                k34 ((n35 : Int) != n36) w33)
              )
            (
              fun (b37 : Bool) (w38 : World) => Jn (
                fun k39 : Bool → World → Prop => (b37 = true → k39 true w38) ∧ (
                  b37 = false → ∃ s40 : Sl, w38.cell? (Addr.add ⟨w3.heap.size, 0, none⟩ 22) = some (.slice s40.a s40.len s40.cap) ∧
                  ∃ s41 : Sl, w38.cell? (Addr.add ⟨w7.heap.size, 0, none⟩ 22) = some (.slice s41.a s41.len s41.cap) ∧
                  k39 ((((s40.len : Nat) : Int) : Int) != ((s41.len : Nat) : Int)) w38)
                )
              (
                fun (b42 : Bool) (w43 : World) => (b42 = true → Q (.bool false) w43) ∧ (
                  b42 = false → ∃ n44 : Int, w43.cell? ⟨w.heap.size, 0, none⟩ = some (.int .i64 n44) ∧
                  ∃ n45 : Int, w43.cell? ⟨w1.heap.size, 0, none⟩ = some (.int .i64 n45) ∧ Jn (
                    fun k46 : Bool → World → Prop => (((n44 : Int) != n45) = true → k46 true w43) ∧
                    (
                      ((n44 : Int) != n45) = false → ∃ s47 : Sl, w43.cell? (Addr.add ⟨w.heap.size, 0, none⟩ 1) = some (.slice s47.a s47.len s47.cap) ∧
                      ∃ s48 : ByteArray, ∃ w49 : World, Sem.run Tryz.prog (convert Ty.Sl_uint8 Ty.string (.slice s47.a s47.len s47.cap)) w43 = .ok (.string s48) w49 ∧
                      ∃ s50 : Sl, w49.cell? (Addr.add ⟨w1.heap.size, 0, none⟩ 1) = some (.slice s50.a s50.len s50.cap) ∧
                      ∃ s51 : ByteArray, ∃ w52 : World, Sem.run Tryz.prog (convert Ty.Sl_uint8 Ty.string (.slice s50.a s50.len s50.cap)) w49 = .ok (.string s51) w52 ∧
                      k46 (!(ByteArray.toList s48 == ByteArray.toList s51)) w52)
                    )
                  (
                    fun (b53 : Bool) (w54 : World) => Jn (
                      fun k55 : Bool → World → Prop => (b53 = true → k55 true w54) ∧ (
                        b53 = false → ∃ n56 : Int, w54.cell? (Addr.add ⟨w.heap.size, 0, none⟩ 2) = some (.int .i64 n56) ∧
                        ∃ n57 : Int, w54.cell? (Addr.add ⟨w1.heap.size, 0, none⟩ 2) = some (.int .i64 n57) ∧
                        k55 ((n56 : Int) != n57) w54)
                      )
                    (
                      fun (b58 : Bool) (w59 : World) => Jn (
                        fun k60 : Bool → World → Prop => (b58 = true → k60 true w59) ∧ (
                          b58 = false → ∃ n61 : Int, w59.cell? (Addr.add ⟨w.heap.size, 0, none⟩ 3) = some (.int .i64 n61) ∧
                          ∃ n62 : Int, w59.cell? (Addr.add ⟨w1.heap.size, 0, none⟩ 3) = some (.int .i64 n62) ∧
                          k60 ((n61 : Int) != n62) w59)
                        )
                      (
                        fun (b63 : Bool) (w64 : World) => Jn (
                          fun k65 : Bool → World → Prop => (b63 = true → k65 true w64) ∧ (
                            b63 = false → ∃ n66 : Int, w64.cell? (Addr.add ⟨w.heap.size, 0, none⟩ 4) = some (.int .u64 n66) ∧
                            ∃ n67 : Int, w64.cell? (Addr.add ⟨w1.heap.size, 0, none⟩ 4) = some (.int .u64 n67) ∧
                            k65 ((n66 : Int) != n67) w64)
                          )
                        (
                          fun (b68 : Bool) (w69 : World) => Jn (
                            fun k70 : Bool → World → Prop => (b68 = true → k70 true w69) ∧ (
                              b68 = false → ∃ b71 : Bool, w69.cell? (Addr.add ⟨w.heap.size, 0, none⟩ 5) = some (.bool b71) ∧
                              ∃ b72 : Bool, w69.cell? (Addr.add ⟨w1.heap.size, 0, none⟩ 5) = some (.bool b72) ∧
                              k70 (!(b71 == b72)) w69)
                            )
                          (
                            fun (b73 : Bool) (w74 : World) => Jn (
                              fun k75 : Bool → World → Prop => (b73 = true → k75 true w74) ∧ (
                                b73 = false → ∃ l76 : List Value, rdCells w74 (Addr.add ⟨w.heap.size, 0, none⟩ 29) 0 21 = some l76 ∧
                                ∃ l77 : List Value, rdCells w74 (Addr.add ⟨w1.heap.size, 0, none⟩ 29) 0 21 = some l77 ∧
                                ∃ b78 : Bool, AggEq Tryz.prog Ty.api_Backend l76.toArray l77.toArray b78 ∧
                                k75 (!b78) w74)
                              )
                            (
                              fun (b79 : Bool) (w80 : World) => Jn (
                                fun k81 : Bool → World → Prop => (b79 = true → k81 true w80) ∧ (
                                  b79 = false → ∃ s82 : Sl, w80.cell? (Addr.add ⟨w.heap.size, 0, none⟩ 50) = some (.slice s82.a s82.len s82.cap) ∧
                                  ∃ s83 : Sl, w80.cell? (Addr.add ⟨w1.heap.size, 0, none⟩ 50) = some (.slice s83.a s83.len s83.cap) ∧
                                  k81 ((((s82.len : Nat) : Int) : Int) != ((s83.len : Nat) : Int)) w80)
                                )
                              (
                                fun (b84 : Bool) (w85 : World) => (b84 = true → Q (.bool false) w85) ∧ (
                                  b84 = false → ∃ (I86 : Int → World → Prop) (μ87 : Int → World → Nat), I86 0 w85 ∧
                                  ∀ (n88 : Int) (w89 : World), I86 n88 w89 → ∃ s90 : Sl, w89.cell? (Addr.add ⟨w.heap.size, 0, none⟩ 50) = some (.slice s90.a s90.len s90.cap) ∧
                                  (
                                    (decide ((n88 : Int) < ((s90.len : Nat) : Int))) = true → Nx (w89.drew) fun w91 =>
                                    ¬ False ∧ ∃ s92 : Sl, w91.cell? (Addr.add ⟨w.heap.size, 0, none⟩ 50) = some (.slice s92.a s92.len s92.cap) ∧
                                    ∃ a93 : Addr, s92.a = some a93 ∧ ((0 : Int) ≤ n88 ∧ n88 < ((s92.len : Nat) : Int)) ∧
                                    ¬ False ∧ ∃ n94 : Int, w91.cell? (a93.add (Int.toNat n88 * 1)) = some (.int .i64 n94) ∧
                                    ¬ False ∧ ∃ s95 : Sl, w91.cell? (Addr.add ⟨w1.heap.size, 0, none⟩ 50) = some (.slice s95.a s95.len s95.cap) ∧
                                    ∃ a96 : Addr, s95.a = some a96 ∧ ((0 : Int) ≤ n88 ∧ n88 < ((s95.len : Nat) : Int)) ∧
                                    ¬ False ∧ ∃ n97 : Int, w91.cell? (a96.add (Int.toNat n88 * 1)) = some (.int .i64 n97) ∧
                                    (((n94 : Int) != n97) = true → Q (.bool false) w91) ∧ (
                                      ((n94 : Int) != n97) = false → I86 (IntKind.wrap .i64 (n88 + 1)) w91 ∧ μ87 (IntKind.wrap .i64 (n88 + 1)) w91 < μ87 n88 w89)
                                    )
                                  ∧ ((decide ((n88 : Int) < ((s90.len : Nat) : Int))) = false → Q (.bool true) w89))
                                )
                              )
                            )
                          )
                        )
                      )
                    )
                  )
                )
              )
            )
          )
        )
      )
    )
  ∧ (
    Nx (
      w3.alloc (
        .cells #[.int .i64 0, .bool false, .int .u8 0, .int .u8 0, .int .u8 0, .int .u8 0, .int .u8 0, .int .u8 0, .int .u8 0, .int .u8 0, .int .u8 0, .int .u8 0, .int .u8 0, .int .u8 0, .int .u8 0, .int .u8 0, .int .u8 0, .int .u8 0, .int .u16 0, .int .u8 0, .int .i64 0, .int .u64 0, .slice none 0 0] Ty.api_Service)
      )
    fun w98 => Chg W4 w3 w98 ∧ Nx (
      w98.alloc (
        .cells #[.int .i64 0, .bool false, .int .u8 0, .int .u8 0, .int .u8 0, .int .u8 0, .int .u8 0, .int .u8 0, .int .u8 0, .int .u8 0, .int .u8 0, .int .u8 0, .int .u8 0, .int .u8 0, .int .u8 0, .int .u8 0, .int .u8 0, .int .u8 0, .int .u16 0, .int .u8 0, .int .i64 0, .int .u64 0, .slice none 0 0] Ty.api_Service)
      )
    fun w99 => Chg W4 w98 w99 ∧ StoreOk w99 ⟨w98.heap.size, 0, none⟩ (Array.toList l5.toArray) ∧
    Array.size l5.toArray = 23 ∧ Nx (setCells w99 ⟨w98.heap.size, 0, none⟩ 0 (Array.toList l5.toArray)) fun w100 =>
    Chg W4 w99 w100 ∧ StoreOk w100 ⟨w3.heap.size, 0, none⟩ (Array.toList l6.toArray) ∧
    Array.size l6.toArray = 23 ∧ Nx (setCells w100 ⟨w3.heap.size, 0, none⟩ 0 (Array.toList l6.toArray)) fun w101 =>
    ∃ n102 : Int, w101.cell? ⟨w98.heap.size, 0, none⟩ = some (.int .i64 n102) ∧
    ∃ n103 : Int, w101.cell? ⟨w3.heap.size, 0, none⟩ = some (.int .i64 n103) ∧
    Jn (
      fun k104 : Bool → World → Prop => (((n102 : Int) != n103) = true → k104 true w101) ∧
      (
        ((n102 : Int) != n103) = false → ∃ l105 : List Value, rdCells w101 (Addr.add ⟨w98.heap.size, 0, none⟩ 1) 0 17 = some l105 ∧
        ∃ l106 : List Value, rdCells w101 (Addr.add ⟨w3.heap.size, 0, none⟩ 1) 0 17 = some l106 ∧
        ∃ b107 : Bool, AggEq Tryz.prog Ty.api_Addr l105.toArray l106.toArray b107 ∧
        k104 (!b107) w101)
      )
    (
      fun (b108 : Bool) (w109 : World) => Jn (
        fun k110 : Bool → World → Prop => (b108 = true → k110 true w109) ∧ (
          b108 = false → ∃ n111 : Int, w109.cell? (Addr.add ⟨w98.heap.size, 0, none⟩ 18) = some (.int .u16 n111) ∧
          ∃ n112 : Int, w109.cell? (Addr.add ⟨w3.heap.size, 0, none⟩ 18) = some (.int .u16 n112) ∧
          k110 ((n111 : Int) != n112) w109)
        )
      (
        fun (b113 : Bool) (w114 : World) => Jn (
          fun k115 : Bool → World → Prop => (b113 = true → k115 true w114) ∧ (
            b113 = false → ∃ n116 : Int, w114.cell? (Addr.add ⟨w98.heap.size, 0, none⟩ 19) = some (.int .u8 n116) ∧
            ∃ n117 : Int, w114.cell? (Addr.add ⟨w3.heap.size, 0, none⟩ 19) = some (.int .u8 n117) ∧
            k115 ((n116 : Int) != n117) w114)
          )
        (
          fun (b118 : Bool) (w119 : World) => Jn (
            fun k120 : Bool → World → Prop => (b118 = true → k120 true w119) ∧ (
              b118 = false → ∃ n121 : Int, w119.cell? (Addr.add ⟨w98.heap.size, 0, none⟩ 20) = some (.int .i64 n121) ∧
              ∃ n122 : Int, w119.cell? (Addr.add ⟨w3.heap.size, 0, none⟩ 20) = some (.int .i64 n122) ∧
              k120 ((n121 : Int) != n122) w119)
            )
          (
            fun (b123 : Bool) (w124 : World) => Jn (
              fun k125 : Bool → World → Prop => (b123 = true → k125 true w124) ∧ (
                b123 = false → ∃ n126 : Int, w124.cell? (Addr.add ⟨w98.heap.size, 0, none⟩ 21) = some (.int .u64 n126) ∧
                ∃ n127 : Int, w124.cell? (Addr.add ⟨w3.heap.size, 0, none⟩ 21) = some (.int .u64 n127) ∧
                k125 ((n126 : Int) != n127) w124)
              )
            (
              fun (b128 : Bool) (w129 : World) => Jn (
                fun k130 : Bool → World → Prop => (b128 = true → k130 true w129) ∧ (
                  b128 = false → ∃ s131 : Sl, w129.cell? (Addr.add ⟨w98.heap.size, 0, none⟩ 22) = some (.slice s131.a s131.len s131.cap) ∧
                  ∃ s132 : Sl, w129.cell? (Addr.add ⟨w3.heap.size, 0, none⟩ 22) = some (.slice s132.a s132.len s132.cap) ∧
                  k130 ((((s131.len : Nat) : Int) : Int) != ((s132.len : Nat) : Int)) w129)
                )
              (
                fun (b133 : Bool) (w134 : World) => (b133 = true → Q (.bool false) w134) ∧
                (
                  b133 = false → ∃ n135 : Int, w134.cell? ⟨w.heap.size, 0, none⟩ = some (.int .i64 n135) ∧
                  ∃ n136 : Int, w134.cell? ⟨w1.heap.size, 0, none⟩ = some (.int .i64 n136) ∧
                  Jn (
                    fun k137 : Bool → World → Prop => (((n135 : Int) != n136) = true → k137 true w134) ∧
                    (
                      ((n135 : Int) != n136) = false → ∃ s138 : Sl, w134.cell? (Addr.add ⟨w.heap.size, 0, none⟩ 1) = some (.slice s138.a s138.len s138.cap) ∧
                      ∃ s139 : ByteArray, ∃ w140 : World, Sem.run Tryz.prog (convert Ty.Sl_uint8 Ty.string (.slice s138.a s138.len s138.cap)) w134 = .ok (.string s139) w140 ∧
                      ∃ s141 : Sl, w140.cell? (Addr.add ⟨w1.heap.size, 0, none⟩ 1) = some (.slice s141.a s141.len s141.cap) ∧
                      ∃ s142 : ByteArray, ∃ w143 : World, Sem.run Tryz.prog (convert Ty.Sl_uint8 Ty.string (.slice s141.a s141.len s141.cap)) w140 = .ok (.string s142) w143 ∧
                      k137 (!(ByteArray.toList s139 == ByteArray.toList s142)) w143)
                    )
                  (
                    fun (b144 : Bool) (w145 : World) => Jn (
                      fun k146 : Bool → World → Prop => (b144 = true → k146 true w145) ∧ (
                        b144 = false → ∃ n147 : Int, w145.cell? (Addr.add ⟨w.heap.size, 0, none⟩ 2) = some (.int .i64 n147) ∧
                        ∃ n148 : Int, w145.cell? (Addr.add ⟨w1.heap.size, 0, none⟩ 2) = some (.int .i64 n148) ∧
                        k146 ((n147 : Int) != n148) w145)
                      )
                    (
                      fun (b149 : Bool) (w150 : World) => Jn (
                        fun k151 : Bool → World → Prop => (b149 = true → k151 true w150) ∧ (
                          b149 = false → ∃ n152 : Int, w150.cell? (Addr.add ⟨w.heap.size, 0, none⟩ 3) = some (.int .i64 n152) ∧
                          ∃ n153 : Int, w150.cell? (Addr.add ⟨w1.heap.size, 0, none⟩ 3) = some (.int .i64 n153) ∧
                          k151 ((n152 : Int) != n153) w150)
                        )
                      (
                        fun (b154 : Bool) (w155 : World) => Jn (
                          fun k156 : Bool → World → Prop => (b154 = true → k156 true w155) ∧ (
                            b154 = false → ∃ n157 : Int, w155.cell? (Addr.add ⟨w.heap.size, 0, none⟩ 4) = some (.int .u64 n157) ∧
                            ∃ n158 : Int, w155.cell? (Addr.add ⟨w1.heap.size, 0, none⟩ 4) = some (.int .u64 n158) ∧
                            k156 ((n157 : Int) != n158) w155)
                          )
                        (
                          fun (b159 : Bool) (w160 : World) => Jn (
                            fun k161 : Bool → World → Prop => (b159 = true → k161 true w160) ∧ (
                              b159 = false → ∃ b162 : Bool, w160.cell? (Addr.add ⟨w.heap.size, 0, none⟩ 5) = some (.bool b162) ∧
                              ∃ b163 : Bool, w160.cell? (Addr.add ⟨w1.heap.size, 0, none⟩ 5) = some (.bool b163) ∧
                              k161 (!(b162 == b163)) w160)
                            )
                          (
                            fun (b164 : Bool) (w165 : World) => Jn (
                              fun k166 : Bool → World → Prop => (b164 = true → k166 true w165) ∧ (
                                b164 = false → ∃ l167 : List Value, rdCells w165 (Addr.add ⟨w.heap.size, 0, none⟩ 29) 0 21 = some l167 ∧
                                ∃ l168 : List Value, rdCells w165 (Addr.add ⟨w1.heap.size, 0, none⟩ 29) 0 21 = some l168 ∧
                                ∃ b169 : Bool, AggEq Tryz.prog Ty.api_Backend l167.toArray l168.toArray b169 ∧
                                k166 (!b169) w165)
                              )
                            (
                              fun (b170 : Bool) (w171 : World) => Jn (
                                fun k172 : Bool → World → Prop => (b170 = true → k172 true w171) ∧ (
                                  b170 = false → ∃ s173 : Sl, w171.cell? (Addr.add ⟨w.heap.size, 0, none⟩ 50) = some (.slice s173.a s173.len s173.cap) ∧
                                  ∃ s174 : Sl, w171.cell? (Addr.add ⟨w1.heap.size, 0, none⟩ 50) = some (.slice s174.a s174.len s174.cap) ∧
                                  k172 ((((s173.len : Nat) : Int) : Int) != ((s174.len : Nat) : Int)) w171)
                                )
                              (
                                fun (b175 : Bool) (w176 : World) => (b175 = true → Q (.bool false) w176) ∧
                                (
                                  b175 = false → ∃ (I177 : Int → World → Prop) (μ178 : Int → World → Nat), I177 0 w176 ∧
                                  ∀ (n179 : Int) (w180 : World), I177 n179 w180 → ∃ s181 : Sl, w180.cell? (Addr.add ⟨w.heap.size, 0, none⟩ 50) = some (.slice s181.a s181.len s181.cap) ∧
                                  (
                                    (decide ((n179 : Int) < ((s181.len : Nat) : Int))) = true → Nx (w180.drew) fun w182 =>
                                    ¬ False ∧ ∃ s183 : Sl, w182.cell? (Addr.add ⟨w.heap.size, 0, none⟩ 50) = some (.slice s183.a s183.len s183.cap) ∧
                                    ∃ a184 : Addr, s183.a = some a184 ∧ ((0 : Int) ≤ n179 ∧ n179 < ((s183.len : Nat) : Int)) ∧
                                    ¬ False ∧ ∃ n185 : Int, w182.cell? (a184.add (Int.toNat n179 * 1)) = some (.int .i64 n185) ∧
                                    ¬ False ∧ ∃ s186 : Sl, w182.cell? (Addr.add ⟨w1.heap.size, 0, none⟩ 50) = some (.slice s186.a s186.len s186.cap) ∧
                                    ∃ a187 : Addr, s186.a = some a187 ∧ ((0 : Int) ≤ n179 ∧ n179 < ((s186.len : Nat) : Int)) ∧
                                    ¬ False ∧ ∃ n188 : Int, w182.cell? (a187.add (Int.toNat n179 * 1)) = some (.int .i64 n188) ∧
                                    (((n185 : Int) != n188) = true → Q (.bool false) w182) ∧ (
                                      ((n185 : Int) != n188) = false → I177 (IntKind.wrap .i64 (n179 + 1)) w182 ∧
                                      μ178 (IntKind.wrap .i64 (n179 + 1)) w182 < μ178 n179 w180)
                                    )
                                  ∧ ((decide ((n179 : Int) < ((s181.len : Nat) : Int))) = false → Q (.bool true) w180))
                                )
                              )
                            )
                          )
                        )
                      )
                    )
                  )
                )
              )
            )
          )
        )
      )
    )
def A.ref29_Same : AT := (.seq (.reg []) (.seq (.drw 7 true ⟨[0, 1, 0, 4, 0, 0, 51, 127], [0, 1, 0, 4, 0, 0, 18, 40]⟩ [256, 512, 1024, 2048, 32, 64, 0, 0] [4, 256, 8, 1024, 0, 0, 544, 2112] (.take 0 (.take 1 (.take 2 (.take 3 (.two 4 (.eff 5 (.eff 6 (.tail [.run]))) 5 (.eff 4 (.eff 6 (.tail [.run]))))))))) (.seq (.seq (.reg [.run, .run, .run, .run, .run, .run, .split 5, .run, .run, .run, .run, .run, .run, .split 5, .run, .run, .run, .run, .run, .run, .split 5, .run, .run, .run, .run, .run, .run, .split 5, .run, .run, .run, .run, .run, .run, .split 5, .run, .run, .run, .run, .run, .run, .split 7]) (.cond (.seq (.reg []) .leaf) .leaf)) (.seq (.seq (.reg [.run, .run, .run, .run, .run, .run, .split 7, .run, .run, .run, .run, .run, .run, .run, .run, .split 5, .run, .run, .run, .run, .run, .run, .split 5, .run, .run, .run, .run, .run, .run, .split 5, .run, .run, .run, .run, .run, .run, .split 5, .run, .run, .run, .run, .run, .run, .split 5, .run, .run, .run, .run, .run, .run, .split 7]) (.cond (.seq (.reg []) .leaf) .leaf)) (.seq (.seq (.reg []) (.blk (.loop [(7, (.int .i64))] [2, 3] (.seq (.seq (.reg []) (.cond .leaf .leaf)) (.seq (.blk (.seq (.drw 10 false ⟨[0, 1, 0, 6, 8, 0, 32, 0, 192, 256, 528], [0, 1, 0, 6, 8, 0, 32, 0, 192, 256, 528]⟩ [85070591730234615865843651857942052864, 170141183460469231731687303715884105728, 340282366920938463463374607431768211456, 680564733841876926926749214863536422912, 1361129467683753853853498429727072845824, 2722258935367507707706996859454145691648, 5444517870735015415413993718908291383296, 10889035741470030830827987437816582766592, 21778071482940061661655974875633165533184, 43556142965880123323311949751266331066368, 87112285931760246646623899502532662132736] [4, 85070591730234615865843651857942052864, 128, 510423550381407695195061911147652317184, 680564733841876926926749214863536422912, 8, 2722258935367507707706996859454145691648, 128, 16333553612205046246241981156724874149888, 21778071482940061661655974875633165533184, 44917272433563877177165448180993403912192] (.take 0 (.take 1 (.take 2 (.take 3 (.take 4 (.take 5 (.take 6 (.take 7 (.take 8 (.take 9 (.tail [.run])))))))))))) (.cond (.seq (.reg []) .leaf) .leaf))) (.reg [])))))) (.seq (.reg []) .leaf))))))
theorem W.ref29_Same_eq (a : Array Value) (b : Array Value) (w : World) (Q : Value → World → Prop) : W.ref29_Same a b w Q = DF Tryz.prog tk A.ref29_Same Tryz.f13 [.agg a, .agg b] w Q := by kernel_rfl
theorem W.ref29_Same_ok (a : Array Value) (b : Array Value) (w : World) (Q : Value → World → Prop) (h : W.ref29_Same a b w Q) : Calls Tryz.prog F.ref29_Same #[.agg a, .agg b] w fun e w1 => ∃ v, e = .returned v ∧ Q v w1 :=
  calls_of_DF hmix Tryz.func13 (by kernel_rfl) (Eq.mp (W.ref29_Same_eq a b w Q) h)

end Go.Proofs.YtgljoledlhmhnaaGreatDoor


namespace Go.Proofs.YtgljoledlhmhnaaGreatDoor
open Go Gx
set_option maxRecDepth 100000
/-- stanchion/stanchionref29.Bare -/
def W.ref29_Bare (op : Array Value) (w : World) (Q : Value → World → Prop) : Prop :=
  Nx (w.alloc (.cells op Ty.api_Op)) fun w1 => Nx (
    w1.alloc (
      .cells #[.int .i64 0, .slice none 0 0, .int .i64 0, .int .i64 0, .int .u64 0, .bool false, .int .i64 0, .bool false, .int .u8 0, .int .u8 0, .int .u8 0, .int .u8 0, .int .u8 0, .int .u8 0, .int .u8 0, .int .u8 0, .int .u8 0, .int .u8 0, .int .u8 0, .int .u8 0, .int .u8 0, .int .u8 0, .int .u8 0, .int .u8 0, .int .u16 0, .int .u8 0, .int .i64 0, .int .u64 0, .slice none 0 0, .int .i64 0, .bool false, .int .u8 0, .int .u8 0, .int .u8 0, .int .u8 0, .int .u8 0, .int .u8 0, .int .u8 0, .int .u8 0, .int .u8 0, .int .u8 0, .int .u8 0, .int .u8 0, .int .u8 0, .int .u8 0, .int .u8 0, .int .u8 0, .int .u16 0, .int .i64 0, .bool false, .slice none 0 0] Ty.api_Op)
    )
  fun w2 => ∃ n3 : Int, w2.cell? ⟨w.heap.size, 0, none⟩ = some (.int .i64 n3) ∧
  ∃ c4 : Array Value, Sem.run Tryz.prog (Instr.build Ty.api_Op #[(0, .int .i64 n3)]) w2 = .ok (.agg c4) w2 ∧
  Nx (
    w2.alloc (
      .cells #[.int .i64 0, .slice none 0 0, .int .i64 0, .int .i64 0, .int .u64 0, .bool false, .int .i64 0, .bool false, .int .u8 0, .int .u8 0, .int .u8 0, .int .u8 0, .int .u8 0, .int .u8 0, .int .u8 0, .int .u8 0, .int .u8 0, .int .u8 0, .int .u8 0, .int .u8 0, .int .u8 0, .int .u8 0, .int .u8 0, .int .u8 0, .int .u16 0, .int .u8 0, .int .i64 0, .int .u64 0, .slice none 0 0, .int .i64 0, .bool false, .int .u8 0, .int .u8 0, .int .u8 0, .int .u8 0, .int .u8 0, .int .u8 0, .int .u8 0, .int .u8 0, .int .u8 0, .int .u8 0, .int .u8 0, .int .u8 0, .int .u8 0, .int .u8 0, .int .u8 0, .int .u8 0, .int .u16 0, .int .i64 0, .bool false, .slice none 0 0] Ty.api_Op)
    )
  fun w5 => StoreOk w5 ⟨w2.heap.size, 0, none⟩ (Array.toList c4) ∧ Array.size c4 = 51 ∧
  Nx (setCells w5 ⟨w2.heap.size, 0, none⟩ 0 (Array.toList c4)) fun w6 => Jn (
    fun k7 : World → Prop => ∃ n8 : Int, w6.cell? ⟨w.heap.size, 0, none⟩ = some (.int .i64 n8) ∧
    (
      ((n8 : Int) == 1) = true → ∃ s9 : Sl, w6.cell? (Addr.add ⟨w.heap.size, 0, none⟩ 1) = some (.slice s9.a s9.len s9.cap) ∧
      (∃ u : Value, w6.cell? (Addr.add ⟨w2.heap.size, 0, none⟩ 1) = some u) ∧ w6.frozen? (Addr.add ⟨w2.heap.size, 0, none⟩ 1) = false ∧
      Nx (w6.setCell (Addr.add ⟨w2.heap.size, 0, none⟩ 1) (.slice s9.a s9.len s9.cap)) fun w10 =>
      k7 w10)
    ∧ (
      ((n8 : Int) == 1) = false → (
        ((n8 : Int) == 2) = true → ∃ n11 : Int, w6.cell? (Addr.add ⟨w.heap.size, 0, none⟩ 4) = some (.int .u64 n11) ∧
        (∃ u : Value, w6.cell? (Addr.add ⟨w2.heap.size, 0, none⟩ 4) = some u) ∧ w6.frozen? (Addr.add ⟨w2.heap.size, 0, none⟩ 4) = false ∧
        Nx (w6.setCell (Addr.add ⟨w2.heap.size, 0, none⟩ 4) (.int .u64 n11)) fun w12 =>
        k7 w12)
      ∧ (
        ((n8 : Int) == 2) = false → (
          ((n8 : Int) == 3) = true → ∃ l13 : List Value, rdCells w6 (Addr.add ⟨w.heap.size, 0, none⟩ 6) 0 23 = some l13 ∧
          Nx (
            w6.alloc (
              .cells #[.int .i64 0, .bool false, .int .u8 0, .int .u8 0, .int .u8 0, .int .u8 0, .int .u8 0, .int .u8 0, .int .u8 0, .int .u8 0, .int .u8 0, .int .u8 0, .int .u8 0, .int .u8 0, .int .u8 0, .int .u8 0, .int .u8 0, .int .u8 0, .int .u16 0, .int .u8 0, .int .i64 0, .int .u64 0, .slice none 0 0] Ty.api_Service)
            )
          fun w14 => StoreOk w14 ⟨w6.heap.size, 0, none⟩ (Array.toList l13.toArray) ∧
          Array.size l13.toArray = 23 ∧ Nx (setCells w14 ⟨w6.heap.size, 0, none⟩ 0 (Array.toList l13.toArray)) fun w15 =>
          ∃ n16 : Int, w15.cell? ⟨w6.heap.size, 0, none⟩ = some (.int .i64 n16) ∧ ∃ l17 : List Value, rdCells w15 (Addr.add ⟨w6.heap.size, 0, none⟩ 1) 0 17 = some l17 ∧
          ∃ n18 : Int, w15.cell? (Addr.add ⟨w6.heap.size, 0, none⟩ 18) = some (.int .u16 n18) ∧
          ∃ n19 : Int, w15.cell? (Addr.add ⟨w6.heap.size, 0, none⟩ 19) = some (.int .u8 n19) ∧
          ∃ n20 : Int, w15.cell? (Addr.add ⟨w6.heap.size, 0, none⟩ 20) = some (.int .i64 n20) ∧
          ∃ n21 : Int, w15.cell? (Addr.add ⟨w6.heap.size, 0, none⟩ 21) = some (.int .u64 n21) ∧
          ∃ c22 : Array Value, Sem.run Tryz.prog (
            Instr.build Ty.api_Service #[(0, .int .i64 n16), (1, .agg l17.toArray), (2, .int .u16 n18), (3, .int .u8 n19), (4, .int .i64 n20), (5, .int .u64 n21)])
          w15 = .ok (.agg c22) w15 ∧ StoreOk w15 (Addr.add ⟨w2.heap.size, 0, none⟩ 6) (Array.toList c22) ∧
          Array.size c22 = 23 ∧ Nx (setCells w15 (Addr.add ⟨w2.heap.size, 0, none⟩ 6) 0 (Array.toList c22)) fun w23 =>
          k7 w23)
        ∧ (
          ((n8 : Int) == 3) = false → (
            ((n8 : Int) == 4) = true → ∃ n24 : Int, w6.cell? (Addr.add ⟨w.heap.size, 0, none⟩ 2) = some (.int .i64 n24) ∧
            (∃ u : Value, w6.cell? (Addr.add ⟨w2.heap.size, 0, none⟩ 2) = some u) ∧ w6.frozen? (Addr.add ⟨w2.heap.size, 0, none⟩ 2) = false ∧
            Nx (w6.setCell (Addr.add ⟨w2.heap.size, 0, none⟩ 2) (.int .i64 n24)) fun w25 =>
            k7 w25)
          ∧ (
            ((n8 : Int) == 4) = false → (
              ((n8 : Int) == 5) = true → Nx (w6.drew) fun w26 => ∃ W27 : Nat → Prop, ¬ W27 (Addr.add ⟨w.heap.size, 0, none⟩ 2).block ∧
              ∃ n28 : Int, w26.cell? (Addr.add ⟨w.heap.size, 0, none⟩ 2) = some (.int .i64 n28) ∧
              ¬ W27 (Addr.add ⟨w.heap.size, 0, none⟩ 29).block ∧ ∃ l29 : List Value, rdCells w26 (Addr.add ⟨w.heap.size, 0, none⟩ 29) 0 21 = some l29 ∧
              (∃ u : Value, w26.cell? (Addr.add ⟨w2.heap.size, 0, none⟩ 2) = some u) ∧ w26.frozen? (Addr.add ⟨w2.heap.size, 0, none⟩ 2) = false ∧
              Nx (w26.setCell (Addr.add ⟨w2.heap.size, 0, none⟩ 2) (.int .i64 n28)) fun w30 =>
              Chg W27 w26 w30 ∧ StoreOk w30 (Addr.add ⟨w2.heap.size, 0, none⟩ 29) (Array.toList l29.toArray) ∧
              Array.size l29.toArray = 21 ∧ Nx (setCells w30 (Addr.add ⟨w2.heap.size, 0, none⟩ 29) 0 (Array.toList l29.toArray)) fun w31 =>
              (∃ u : Value, w31.cell? ((Addr.add ⟨w2.heap.size, 0, none⟩ 29).add 20) = some u) ∧
              w31.frozen? ((Addr.add ⟨w2.heap.size, 0, none⟩ 29).add 20) = false ∧ Nx (w31.setCell ((Addr.add ⟨w2.heap.size, 0, none⟩ 29).add 20) (.bool false)) fun w32 =>
              k7 w32)
            ∧ (
              ((n8 : Int) == 5) = false → Jn (
                fun k33 : Bool → World → Prop => (((n8 : Int) == 6) = true → k33 ((n8 : Int) == 6) w6) ∧
                (((n8 : Int) == 6) = false → k33 ((n8 : Int) == 12) w6))
              (
                fun (b34 : Bool) (w35 : World) => (
                  b34 = true → Nx (w35.drew) fun w36 => ∃ W37 : Nat → Prop, ¬ W37 (Addr.add ⟨w.heap.size, 0, none⟩ 2).block ∧
                  ∃ n38 : Int, w36.cell? (Addr.add ⟨w.heap.size, 0, none⟩ 2) = some (.int .i64 n38) ∧
                  ¬ W37 (Addr.add ⟨w.heap.size, 0, none⟩ 3).block ∧ ∃ n39 : Int, w36.cell? (Addr.add ⟨w.heap.size, 0, none⟩ 3) = some (.int .i64 n39) ∧
                  (∃ u : Value, w36.cell? (Addr.add ⟨w2.heap.size, 0, none⟩ 2) = some u) ∧ w36.frozen? (Addr.add ⟨w2.heap.size, 0, none⟩ 2) = false ∧
                  Nx (w36.setCell (Addr.add ⟨w2.heap.size, 0, none⟩ 2) (.int .i64 n38)) fun w40 =>
                  Chg W37 w36 w40 ∧ (∃ u : Value, w40.cell? (Addr.add ⟨w2.heap.size, 0, none⟩ 3) = some u) ∧
                  w40.frozen? (Addr.add ⟨w2.heap.size, 0, none⟩ 3) = false ∧ Nx (w40.setCell (Addr.add ⟨w2.heap.size, 0, none⟩ 3) (.int .i64 n39)) fun w41 =>
                  k7 w41)
                ∧ (
                  b34 = false → Jn (
                    fun k42 : Bool → World → Prop => (((n8 : Int) == 7) = true → k42 ((n8 : Int) == 7) w35) ∧
                    (((n8 : Int) == 7) = false → k42 ((n8 : Int) == 9) w35))
                  (
                    fun (b43 : Bool) (w44 : World) => (
                      b43 = true → Nx (w44.drew) fun w45 => ∃ W46 : Nat → Prop, ¬ W46 (Addr.add ⟨w.heap.size, 0, none⟩ 2).block ∧
                      ∃ n47 : Int, w45.cell? (Addr.add ⟨w.heap.size, 0, none⟩ 2) = some (.int .i64 n47) ∧
                      ¬ W46 (Addr.add ⟨w.heap.size, 0, none⟩ 3).block ∧ ∃ n48 : Int, w45.cell? (Addr.add ⟨w.heap.size, 0, none⟩ 3) = some (.int .i64 n48) ∧
                      ¬ W46 (Addr.add ⟨w.heap.size, 0, none⟩ 5).block ∧ ∃ b49 : Bool, w45.cell? (Addr.add ⟨w.heap.size, 0, none⟩ 5) = some (.bool b49) ∧
                      (∃ u : Value, w45.cell? (Addr.add ⟨w2.heap.size, 0, none⟩ 2) = some u) ∧ w45.frozen? (Addr.add ⟨w2.heap.size, 0, none⟩ 2) = false ∧
                      Nx (w45.setCell (Addr.add ⟨w2.heap.size, 0, none⟩ 2) (.int .i64 n47)) fun w50 =>
                      Chg W46 w45 w50 ∧ (∃ u : Value, w50.cell? (Addr.add ⟨w2.heap.size, 0, none⟩ 3) = some u) ∧
                      w50.frozen? (Addr.add ⟨w2.heap.size, 0, none⟩ 3) = false ∧ Nx (w50.setCell (Addr.add ⟨w2.heap.size, 0, none⟩ 3) (.int .i64 n48)) fun w51 =>
                      Chg W46 w50 w51 ∧ (∃ u : Value, w51.cell? (Addr.add ⟨w2.heap.size, 0, none⟩ 5) = some u) ∧
                      w51.frozen? (Addr.add ⟨w2.heap.size, 0, none⟩ 5) = false ∧ Nx (w51.setCell (Addr.add ⟨w2.heap.size, 0, none⟩ 5) (.bool b49)) fun w52 =>
                      k7 w52)
                    ∧ (
                      b43 = false → Jn (
                        fun k53 : Bool → World → Prop => (((n8 : Int) == 8) = true → k53 ((n8 : Int) == 8) w44) ∧
                        (((n8 : Int) == 8) = false → k53 ((n8 : Int) == 13) w44))
                      (
                        fun (b54 : Bool) (w55 : World) => (
                          b54 = true → Nx (w55.drew) fun w56 => ∃ W57 : Nat → Prop, ¬ W57 (Addr.add ⟨w.heap.size, 0, none⟩ 2).block ∧
                          ∃ n58 : Int, w56.cell? (Addr.add ⟨w.heap.size, 0, none⟩ 2) = some (.int .i64 n58) ∧
                          ¬ W57 (Addr.add ⟨w.heap.size, 0, none⟩ 3).block ∧ ∃ n59 : Int, w56.cell? (Addr.add ⟨w.heap.size, 0, none⟩ 3) = some (.int .i64 n59) ∧
                          ¬ W57 (Addr.add ⟨w.heap.size, 0, none⟩ 4).block ∧ ∃ n60 : Int, w56.cell? (Addr.add ⟨w.heap.size, 0, none⟩ 4) = some (.int .u64 n60) ∧
                          (∃ u : Value, w56.cell? (Addr.add ⟨w2.heap.size, 0, none⟩ 2) = some u) ∧ w56.frozen? (Addr.add ⟨w2.heap.size, 0, none⟩ 2) = false ∧
                          Nx (w56.setCell (Addr.add ⟨w2.heap.size, 0, none⟩ 2) (.int .i64 n58)) fun w61 =>
                          Chg W57 w56 w61 ∧ (∃ u : Value, w61.cell? (Addr.add ⟨w2.heap.size, 0, none⟩ 3) = some u) ∧
                          w61.frozen? (Addr.add ⟨w2.heap.size, 0, none⟩ 3) = false ∧ Nx (w61.setCell (Addr.add ⟨w2.heap.size, 0, none⟩ 3) (.int .i64 n59)) fun w62 =>
                          Chg W57 w61 w62 ∧ (∃ u : Value, w62.cell? (Addr.add ⟨w2.heap.size, 0, none⟩ 4) = some u) ∧
                          w62.frozen? (Addr.add ⟨w2.heap.size, 0, none⟩ 4) = false ∧ Nx (w62.setCell (Addr.add ⟨w2.heap.size, 0, none⟩ 4) (.int .u64 n60)) fun w63 =>
                          k7 w63)
                        ∧ (
                          b54 = false → (
                            ((n8 : Int) == 11) = true → ∃ s64 : Sl, w55.cell? (Addr.add ⟨w.heap.size, 0, none⟩ 50) = some (.slice s64.a s64.len s64.cap) ∧
                            (∃ u : Value, w55.cell? (Addr.add ⟨w2.heap.size, 0, none⟩ 50) = some u) ∧
                            w55.frozen? (Addr.add ⟨w2.heap.size, 0, none⟩ 50) = false ∧ Nx (w55.setCell (Addr.add ⟨w2.heap.size, 0, none⟩ 50) (.slice s64.a s64.len s64.cap)) fun w65 =>
                            k7 w65)
                          ∧ (
                            ((n8 : Int) == 11) = false → ∃ n66 : Int, w55.cell? ⟨w.heap.size, 0, none⟩ = some (.int .i64 n66) ∧
                            (∃ u : Value, w55.cell? ⟨w2.heap.size, 0, none⟩ = some u) ∧ w55.frozen? ⟨w2.heap.size, 0, none⟩ = false ∧
                            Nx (w55.setCell ⟨w2.heap.size, 0, none⟩ (.int .i64 n66)) fun w67 => k7 w67)
                          )
                        )
                      )
                    )
                  )
                )
              )
            )
          )
        )
      )
    )
  (
    fun  (w68 : World) => ∃ l69 : List Value, rdCells w68 ⟨w2.heap.size, 0, none⟩ 0 51 = some l69 ∧
    StoreOk w68 ⟨w1.heap.size, 0, none⟩ (Array.toList l69.toArray) ∧ Array.size l69.toArray = 51 ∧
    Nx (setCells w68 ⟨w1.heap.size, 0, none⟩ 0 (Array.toList l69.toArray)) fun w70 =>
    ∃ l71 : List Value, rdCells w70 ⟨w1.heap.size, 0, none⟩ 0 51 = some l71 ∧
    Q (.agg l71.toArray) w70)
def A.ref29_Bare : AT := (.seq (.reg []) (.seq (.reg []) (.seq (.jk [] [2, 3] (.seq (.reg []) (.blk (.seq (.reg []) (.cond (.reg []) (.seq (.reg []) (.cond (.reg []) (.seq (.reg []) (.cond (.seq (.reg []) (.reg [])) (.seq (.reg []) (.cond (.reg []) (.seq (.reg []) (.cond (.seq (.drw 6 true ⟨[0, 1, 0, 4, 3, 19, 63, 127], [0, 1, 0, 4, 0, 18, 0, 72]⟩ [281474976710656, 562949953421312, 1125899906842624, 2251799813685248, 4503599627370496, 0, 9007199254740992, 0] [2, 281474976710656, 2, 1125899906842624, 8, 5066549580791808, 8, 11258999068426240] (.take 0 (.take 1 (.take 2 (.take 3 (.take 4 (.eff 5 (.tail [.run, .run])))))))) (.reg [])) (.seq (.jk [(56, .bool)] [1, 2, 3, 9] (.seq (.reg []) (.cond .leaf (.reg [])))) (.cond (.drw 6 true ⟨[0, 1, 0, 4, 3, 19, 63, 127], [0, 1, 0, 4, 0, 18, 0, 72]⟩ [576460752303423488, 1152921504606846976, 2305843009213693952, 4611686018427387904, 9223372036854775808, 0, 18446744073709551616, 0] [2, 576460752303423488, 2, 2305843009213693952, 8, 10376293541461622784, 8, 23058430092136939520] (.take 0 (.take 1 (.take 2 (.take 3 (.take 4 (.eff 5 (.tail [.run, .run])))))))) (.seq (.jk [(65, .bool)] [1, 2, 3, 9] (.seq (.reg []) (.cond .leaf (.reg [])))) (.cond (.drw 10 true ⟨[0, 1, 0, 4, 0, 16, 3, 67, 207, 463, 1023, 2047], [0, 1, 0, 4, 0, 16, 0, 66, 0, 264, 0, 1056]⟩ [295147905179352825856, 590295810358705651712, 1180591620717411303424, 2361183241434822606848, 4722366482869645213696, 9444732965739290427392, 18889465931478580854784, 0, 37778931862957161709568, 0, 75557863725914323419136, 0] [2, 295147905179352825856, 2, 1180591620717411303424, 2, 4722366482869645213696, 8, 19479761741837286506496, 8, 40140115104391984316416, 8, 85002596691653613846528] (.take 0 (.take 1 (.take 2 (.take 3 (.take 4 (.take 5 (.take 6 (.eff 7 (.take 8 (.eff 9 (.tail [.run, .run])))))))))))) (.seq (.jk [(77, .bool)] [1, 2, 3, 9] (.seq (.reg []) (.cond .leaf (.reg [])))) (.cond (.drw 10 true ⟨[0, 1, 0, 4, 0, 16, 3, 67, 207, 463, 1023, 2047], [0, 1, 0, 4, 0, 16, 0, 66, 0, 264, 0, 1056]⟩ [1208925819614629174706176, 2417851639229258349412352, 4835703278458516698824704, 9671406556917033397649408, 19342813113834066795298816, 38685626227668133590597632, 77371252455336267181195264, 0, 154742504910672534362390528, 0, 309485009821345068724781056, 0] [2, 1208925819614629174706176, 2, 4835703278458516698824704, 2, 19342813113834066795298816, 8, 79789104094565525530607616, 8, 164413911467589567760039936, 8, 348170636049013202315378688] (.take 0 (.take 1 (.take 2 (.take 3 (.take 4 (.take 5 (.take 6 (.eff 7 (.take 8 (.eff 9 (.tail [.run, .run])))))))))))) (.seq (.reg []) (.cond (.reg []) (.reg [])))))))))))))))))))))) (.seq (.reg []) .leaf))))
theorem W.ref29_Bare_eq (op : Array Value) (w : World) (Q : Value → World → Prop) : W.ref29_Bare op w Q = DF Tryz.prog tk A.ref29_Bare Tryz.f30 [.agg op] w Q := by kernel_rfl
theorem W.ref29_Bare_ok (op : Array Value) (w : World) (Q : Value → World → Prop) (h : W.ref29_Bare op w Q) : Calls Tryz.prog F.ref29_Bare #[.agg op] w fun e w1 => ∃ v, e = .returned v ∧ Q v w1 :=
  calls_of_DF hmix Tryz.func30 (by kernel_rfl) (Eq.mp (W.ref29_Bare_eq op w Q) h)

/-- stanchion/stanchionref12.Good -/
def W.ref12_Good (a : Array Value) (w : World) (Q : Value → World → Prop) : Prop :=
  Nx (w.alloc (.cells a Ty.api_Addr)) fun w1 => ∃ (I2 : Int → World → Prop) (μ3 : Int → World → Nat), I2 0 w1 ∧
  ∀ (n4 : Int) (w5 : World), I2 n4 w5 → (
    (decide ((n4 : Int) < 12)) = true → ∃ b6 : Bool, w5.cell? ⟨w.heap.size, 0, none⟩ = some (.bool b6) ∧
    Jn (
      fun k7 : Bool → World → Prop => (
        (!b6) = true → ((0 : Int) ≤ n4 ∧ n4 < ((16 : Nat) : Int)) ∧ ∃ n8 : Int, w5.cell? (Addr.add (Addr.add ⟨w.heap.size, 0, none⟩ 1) (Int.toNat n4 * 1)) = some (.int .u8 n8) ∧
        k7 ((n8 : Int) != 0) w5)
      ∧ ((!b6) = false → k7 false w5))
    (
      fun (b9 : Bool) (w10 : World) => (b9 = true → Q (.bool false) w10) ∧ (b9 = false → I2 (IntKind.wrap .i64 (n4 + 1)) w10 ∧ μ3 (IntKind.wrap .i64 (n4 + 1)) w10 < μ3 n4 w5))
    )
  ∧ ((decide ((n4 : Int) < 12)) = false → Q (.bool true) w5)
def A.ref12_Good : AT := (.seq (.reg []) (.seq (.seq (.reg []) (.blk (.loop [(3, (.int .i64))] [1] (.seq (.seq (.reg []) (.cond .leaf .leaf)) (.seq (.blk (.seq (.reg [.run, .run, .run, .run, .split 5]) (.cond (.seq (.reg []) .leaf) .leaf))) (.reg [])))))) (.seq (.reg []) .leaf)))
theorem W.ref12_Good_eq (a : Array Value) (w : World) (Q : Value → World → Prop) : W.ref12_Good a w Q = DF Tryz.prog tk A.ref12_Good Tryz.f31 [.agg a] w Q := by kernel_rfl
theorem W.ref12_Good_ok (a : Array Value) (w : World) (Q : Value → World → Prop) (h : W.ref12_Good a w Q) : Calls Tryz.prog F.ref12_Good #[.agg a] w fun e w1 => ∃ v, e = .returned v ∧ Q v w1 :=
  calls_of_DF hmix Tryz.func31 (by kernel_rfl) (Eq.mp (W.ref12_Good_eq a w Q) h)

/-- stanchion/stanchionref29.int0 -/
def W.ref29_int0 (n : Int) (w : World) (Q : Value → World → Prop) : Prop :=
  (
    (decide ((n : Int) < 0)) = true → Calls Tryz.prog F.ref29_num #[.int .u64 (IntKind.wrap .u64 ((IntKind.wrap .u64 (IntKind.wrap .i64 (0 - (IntKind.wrap .i64 (n + 1))))) + 1))] w fun e2 w1 =>
    ∃ s3 : ByteArray, e2 = .returned (.string s3) ∧ ((ByteArray.size (ByteArray.mk #[45]) + ByteArray.size s3 : Nat) : Int) ≤ 9223372036854775807 ∧
    Q (.string ((ByteArray.mk #[45]) ++ s3)) w1)
  ∧ (
    (decide ((n : Int) < 0)) = false → Calls Tryz.prog F.ref29_num #[.int .u64 (IntKind.wrap .u64 n)] w fun e5 w4 =>
    ∃ s6 : ByteArray, e5 = .returned (.string s6) ∧ Q (.string s6) w4)
def A.ref29_int0 : AT := (.seq (.reg []) (.seq (.seq (.reg []) (.cond (.seq (.reg []) .leaf) .leaf)) (.seq (.reg []) .leaf)))
theorem W.ref29_int0_eq (n : Int) (w : World) (Q : Value → World → Prop) : W.ref29_int0 n w Q = DF Tryz.prog tk A.ref29_int0 Tryz.f32 [.int .i64 n] w Q := by kernel_rfl
theorem W.ref29_int0_ok (n : Int) (w : World) (Q : Value → World → Prop) (h : W.ref29_int0 n w Q) : Calls Tryz.prog F.ref29_int0 #[.int .i64 n] w fun e w1 => ∃ v, e = .returned v ∧ Q v w1 :=
  calls_of_DF hmix Tryz.func32 (by kernel_rfl) (Eq.mp (W.ref29_int0_eq n w Q) h)

/-- stanchion/stanchionref29.hex -/
def W.ref29_hex (b : Sl) (w : World) (Q : Value → World → Prop) : Prop :=
  (((((b.len : Nat) : Int) : Int) == 0) = true → Q (.string (ByteArray.mk #[45])) w) ∧
  (
    ((((b.len : Nat) : Int) : Int) == 0) = false → ∃ (I1 : ByteArray → Int → World → Prop) (μ2 : ByteArray → Int → World → Nat), I1 (ByteArray.mk #[]) 0 w ∧
    ∀ (s3 : ByteArray) (n4 : Int) (w5 : World), I1 s3 n4 w5 → (
      (decide ((n4 : Int) < ((b.len : Nat) : Int))) = true → Nx (w5.drew) fun w6 =>
      ∃ a7 : Addr, b.a = some a7 ∧ ((0 : Int) ≤ n4 ∧ n4 < ((b.len : Nat) : Int)) ∧
      ¬ False ∧ ∃ n8 : Int, w6.cell? (a7.add (Int.toNat n4 * 1)) = some (.int .u8 n8) ∧
      (16 : Int) ≠ 0 ∧ ∃ a9 : Addr, b.a = some a9 ∧ ((0 : Int) ≤ n4 ∧ n4 < ((b.len : Nat) : Int)) ∧
      ¬ False ∧ ∃ n10 : Int, w6.cell? (a9.add (Int.toNat n4 * 1)) = some (.int .u8 n10) ∧
      (16 : Int) ≠ 0 ∧ (
        (0 : Int) ≤ (IntKind.wrap .u8 ((IntKind.wrap .u8 (Int.tdiv n10 16)) + 1)) ∧
        (IntKind.wrap .u8 ((IntKind.wrap .u8 (Int.tdiv n10 16)) + 1)) ≤ (
          (
            (ByteArray.size (ByteArray.mk #[48, 49, 50, 51, 52, 53, 54, 55, 56, 57, 97, 98, 99, 100, 101, 102])) : Nat)
          : Int)
        )
      ∧ (
        (0 : Int) ≤ (IntKind.wrap .u8 (Int.tdiv n8 16)) ∧ (IntKind.wrap .u8 (Int.tdiv n8 16)) ≤ (((Int.toNat (IntKind.wrap .u8 ((IntKind.wrap .u8 (Int.tdiv n10 16)) + 1))) : Nat) : Int))
      ∧ (
        (
          ByteArray.size s3 + ByteArray.size (
            ByteArray.extract (ByteArray.mk #[48, 49, 50, 51, 52, 53, 54, 55, 56, 57, 97, 98, 99, 100, 101, 102]) (Int.toNat (IntKind.wrap .u8 (Int.tdiv n8 16))) (Int.toNat (IntKind.wrap .u8 ((IntKind.wrap .u8 (Int.tdiv n10 16)) + 1))))
          : Nat)
        : Int)
      ≤ 9223372036854775807 ∧ ∃ a11 : Addr, b.a = some a11 ∧ ((0 : Int) ≤ n4 ∧ n4 < ((b.len : Nat) : Int)) ∧
      ¬ False ∧ ∃ n12 : Int, w6.cell? (a11.add (Int.toNat n4 * 1)) = some (.int .u8 n12) ∧
      (16 : Int) ≠ 0 ∧ ∃ a13 : Addr, b.a = some a13 ∧ ((0 : Int) ≤ n4 ∧ n4 < ((b.len : Nat) : Int)) ∧
      ¬ False ∧ ∃ n14 : Int, w6.cell? (a13.add (Int.toNat n4 * 1)) = some (.int .u8 n14) ∧
      (16 : Int) ≠ 0 ∧ (
        (0 : Int) ≤ (IntKind.wrap .u8 ((Int.tmod n14 16) + 1)) ∧ (IntKind.wrap .u8 ((Int.tmod n14 16) + 1)) ≤ (
          (
            (ByteArray.size (ByteArray.mk #[48, 49, 50, 51, 52, 53, 54, 55, 56, 57, 97, 98, 99, 100, 101, 102])) : Nat)
          : Int)
        )
      ∧ (
        (0 : Int) ≤ (Int.tmod n12 16) ∧ (Int.tmod n12 16) ≤ (((Int.toNat (IntKind.wrap .u8 ((Int.tmod n14 16) + 1))) : Nat) : Int))
      ∧ (
        (
          ByteArray.size (
            s3 ++ (
              ByteArray.extract (ByteArray.mk #[48, 49, 50, 51, 52, 53, 54, 55, 56, 57, 97, 98, 99, 100, 101, 102]) (Int.toNat (IntKind.wrap .u8 (Int.tdiv n8 16))) (Int.toNat (IntKind.wrap .u8 ((IntKind.wrap .u8 (Int.tdiv n10 16)) + 1))))
            )
          + ByteArray.size (
            ByteArray.extract (ByteArray.mk #[48, 49, 50, 51, 52, 53, 54, 55, 56, 57, 97, 98, 99, 100, 101, 102]) (Int.toNat (Int.tmod n12 16)) (Int.toNat (IntKind.wrap .u8 ((Int.tmod n14 16) + 1))))
          : Nat)
        : Int)
      ≤ 9223372036854775807 ∧ I1 (
        (
          s3 ++ (
            ByteArray.extract (ByteArray.mk #[48, 49, 50, 51, 52, 53, 54, 55, 56, 57, 97, 98, 99, 100, 101, 102]) (Int.toNat (IntKind.wrap .u8 (Int.tdiv n8 16))) (Int.toNat (IntKind.wrap .u8 ((IntKind.wrap .u8 (Int.tdiv n10 16)) + 1))))
          )
        ++ (
          ByteArray.extract (ByteArray.mk #[48, 49, 50, 51, 52, 53, 54, 55, 56, 57, 97, 98, 99, 100, 101, 102]) (Int.toNat (Int.tmod n12 16)) (Int.toNat (IntKind.wrap .u8 ((Int.tmod n14 16) + 1))))
        )
      (IntKind.wrap .i64 (n4 + 1)) w6 ∧ μ2 (
        (
          s3 ++ (
            ByteArray.extract (ByteArray.mk #[48, 49, 50, 51, 52, 53, 54, 55, 56, 57, 97, 98, 99, 100, 101, 102]) (Int.toNat (IntKind.wrap .u8 (Int.tdiv n8 16))) (Int.toNat (IntKind.wrap .u8 ((IntKind.wrap .u8 (Int.tdiv n10 16)) + 1))))
          )
        ++ (
          ByteArray.extract (ByteArray.mk #[48, 49, 50, 51, 52, 53, 54, 55, 56, 57, 97, 98, 99, 100, 101, 102]) (Int.toNat (Int.tmod n12 16)) (Int.toNat (IntKind.wrap .u8 ((Int.tmod n14 16) + 1))))
        )
      (IntKind.wrap .i64 (n4 + 1)) w6 < μ2 s3 n4 w5)
    ∧ ((decide ((n4 : Int) < ((b.len : Nat) : Int))) = false → Q (.string s3) w5))
def A.ref29_hex : AT := (.seq (.reg []) (.seq (.reg []) (.seq (.seq (.reg []) (.cond (.seq (.reg []) .leaf) .leaf)) (.seq (.seq (.reg []) (.blk (.loop [(3, .str), (5, (.int .i64))] [0, 4] (.seq (.seq (.reg []) (.cond .leaf .leaf)) (.seq (.blk (.drw 28 false ⟨[0, 0, 0, 0, 12, 16, 32, 0, 0, 384, 512, 1024, 2048, 4162, 8193, 0, 0, 0, 196608, 262144, 524288, 0, 0, 6291456, 8388608, 16777216, 33554432, 68190208, 134234112, 536870911], [0, 0, 0, 0, 12, 16, 32, 0, 0, 384, 512, 1024, 2048, 4162, 8193, 0, 0, 0, 196608, 262144, 524288, 0, 0, 6291456, 8388608, 16777216, 33554432, 68190208, 134234112, 268435457]⟩ [32768, 65536, 131072, 262144, 524288, 1048576, 2097152, 4194304, 8388608, 16777216, 33554432, 67108864, 134217728, 268435456, 536870912, 1073741824, 2147483648, 4294967296, 8589934592, 17179869184, 34359738368, 68719476736, 137438953472, 274877906944, 549755813888, 1099511627776, 2199023255552, 4398046511104, 8796093022208, 8] [8, 16, 1, 32, 393216, 524288, 1048576, 1, 32, 12582912, 16777216, 33554432, 67108864, 136380416, 268468224, 16, 1, 32, 6442450944, 8589934592, 17179869184, 1, 32, 206158430208, 274877906944, 549755813888, 1099511627776, 2234456735744, 4398583382016, 8796093022208] (.take 0 (.take 1 (.take 2 (.take 3 (.take 4 (.take 5 (.take 6 (.take 7 (.take 8 (.take 9 (.take 10 (.take 11 (.take 12 (.take 13 (.take 14 (.take 15 (.take 16 (.take 17 (.take 18 (.take 19 (.take 20 (.take 21 (.take 22 (.take 23 (.take 24 (.take 25 (.take 26 (.take 27 (.tail [.run, .run]))))))))))))))))))))))))))))))) (.reg [])))))) (.seq (.reg []) .leaf)))))
theorem W.ref29_hex_eq (b : Sl) (w : World) (Q : Value → World → Prop) : W.ref29_hex b w Q = DF Tryz.prog tk A.ref29_hex Tryz.f33 [.slice b.a b.len b.cap] w Q := by kernel_rfl
theorem W.ref29_hex_ok (b : Sl) (w : World) (Q : Value → World → Prop) (h : W.ref29_hex b w Q) : Calls Tryz.prog F.ref29_hex #[.slice b.a b.len b.cap] w fun e w1 => ∃ v, e = .returned v ∧ Q v w1 :=
  calls_of_DF hmix Tryz.func33 (by kernel_rfl) (Eq.mp (W.ref29_hex_eq b w Q) h)

/-- stanchion/stanchionref29.num -/
def W.ref29_num (n : Int) (w : World) (Q : Value → World → Prop) : Prop :=
  (
    (decide ((n : Int) < 10)) = true → (
      (0 : Int) ≤ (IntKind.wrap .u64 (n + 1)) ∧ (IntKind.wrap .u64 (n + 1)) ≤ (((ByteArray.size (ByteArray.mk #[48, 49, 50, 51, 52, 53, 54, 55, 56, 57])) : Nat) : Int))
    ∧ ((0 : Int) ≤ n ∧ n ≤ (((Int.toNat (IntKind.wrap .u64 (n + 1))) : Nat) : Int)) ∧
    Q (
      .string (
        ByteArray.extract (ByteArray.mk #[48, 49, 50, 51, 52, 53, 54, 55, 56, 57]) (Int.toNat n) (Int.toNat (IntKind.wrap .u64 (n + 1))))
      )
    w)
  ∧ (
    (decide ((n : Int) < 10)) = false → (10 : Int) ≠ 0 ∧ Calls Tryz.prog F.ref29_num #[.int .u64 (IntKind.wrap .u64 (Int.tdiv n 10))] w fun e2 w1 =>
    ∃ s3 : ByteArray, e2 = .returned (.string s3) ∧ (10 : Int) ≠ 0 ∧ Calls Tryz.prog F.ref29_num #[.int .u64 (Int.tmod n 10)] w1 fun e5 w4 =>
    ∃ s6 : ByteArray, e5 = .returned (.string s6) ∧ ((ByteArray.size s3 + ByteArray.size s6 : Nat) : Int) ≤ 9223372036854775807 ∧
    Q (.string (s3 ++ s6)) w4)
def A.ref29_num : AT := (.seq (.reg []) (.seq (.seq (.reg []) (.cond (.seq (.reg []) .leaf) .leaf)) (.seq (.reg []) .leaf)))
theorem W.ref29_num_eq (n : Int) (w : World) (Q : Value → World → Prop) : W.ref29_num n w Q = DF Tryz.prog tk A.ref29_num Tryz.f34 [.int .u64 n] w Q := by kernel_rfl
theorem W.ref29_num_ok (n : Int) (w : World) (Q : Value → World → Prop) (h : W.ref29_num n w Q) : Calls Tryz.prog F.ref29_num #[.int .u64 n] w fun e w1 => ∃ v, e = .returned v ∧ Q v w1 :=
  calls_of_DF hmix Tryz.func34 (by kernel_rfl) (Eq.mp (W.ref29_num_eq n w Q) h)

/-- stanchion/stanchionref12.Show -/
def W.ref12_Show (a : Array Value) (w : World) (Q : Value → World → Prop) : Prop :=
  Nx (w.alloc (.cells a Ty.api_Addr)) fun w1 => ∃ l2 : List Value, rdCells w1 ⟨w.heap.size, 0, none⟩ 0 17 = some l2 ∧
  Calls Tryz.prog F.ref12_Good #[.agg l2.toArray] w1 fun e4 w3 => ∃ b5 : Bool, e4 = .returned (.bool b5) ∧
  ((!b5) = true → Q (.string (ByteArray.mk #[])) w3) ∧ (
    (!b5) = false → ∃ (I6 : ByteArray → Int → World → Prop) (μ7 : ByteArray → Int → World → Nat), I6 (ByteArray.mk #[]) 12 w3 ∧
    ∀ (s8 : ByteArray) (n9 : Int) (w10 : World), I6 s8 n9 w10 → Jn (
      fun k11 : Bool → World → Prop => (
        (decide ((n9 : Int) < 16)) = true → ∃ b12 : Bool, w10.cell? ⟨w.heap.size, 0, none⟩ = some (.bool b12) ∧
        k11 (!b12) w10)
      ∧ ((decide ((n9 : Int) < 16)) = false → k11 false w10))
    (
      fun (b13 : Bool) (w14 : World) => (
        b13 = true → Jn (
          fun k15 : ByteArray → World → Prop => ((0 : Int) ≤ n9 ∧ n9 < ((16 : Nat) : Int)) ∧
          ∃ n16 : Int, w14.cell? (Addr.add (Addr.add ⟨w.heap.size, 0, none⟩ 1) (Int.toNat n9 * 1)) = some (.int .u8 n16) ∧
          Calls Tryz.prog F.ref12_Num #[.int .i64 (IntKind.wrap .i64 n16), .int .i64 10] w14 fun e18 w17 =>
          ∃ s19 : ByteArray, e18 = .returned (.string s19) ∧ ((ByteArray.size s8 + ByteArray.size s19 : Nat) : Int) ≤ 9223372036854775807 ∧
          (
            (decide ((n9 : Int) < 15)) = true → ((ByteArray.size (s8 ++ s19) + ByteArray.size (ByteArray.mk #[46]) : Nat) : Int) ≤ 9223372036854775807 ∧
            k15 ((s8 ++ s19) ++ (ByteArray.mk #[46])) w17)
          ∧ ((decide ((n9 : Int) < 15)) = false → k15 (s8 ++ s19) w17))
        (
          fun (s20 : ByteArray) (w21 : World) => I6 s20 (IntKind.wrap .i64 (n9 + 1)) w21 ∧
          μ7 s20 (IntKind.wrap .i64 (n9 + 1)) w21 < μ7 s8 n9 w10)
        )
      ∧ (
        b13 = false → ∃ (I22 : ByteArray → Int → World → Prop) (μ23 : ByteArray → Int → World → Nat), I22 s8 0 w14 ∧
        ∀ (s24 : ByteArray) (n25 : Int) (w26 : World), I22 s24 n25 w26 → Jn (
          fun k27 : Bool → World → Prop => (
            (decide ((n25 : Int) < 8)) = true → ∃ b28 : Bool, w26.cell? ⟨w.heap.size, 0, none⟩ = some (.bool b28) ∧
            k27 b28 w26)
          ∧ ((decide ((n25 : Int) < 8)) = false → k27 false w26))
        (
          fun (b29 : Bool) (w30 : World) => (
            b29 = true → Jn (
              fun k31 : ByteArray → World → Prop => Nx (w30.drew) fun w32 => ∃ W33 : Nat →
              Prop, ((0 : Int) ≤ (IntKind.wrap .i64 (2 * n25)) ∧ (IntKind.wrap .i64 (2 * n25)) < ((16 : Nat) : Int)) ∧
              ¬ W33 (Addr.add (Addr.add ⟨w.heap.size, 0, none⟩ 1) (Int.toNat (IntKind.wrap .i64 (2 * n25)) * 1)).block ∧
              ∃ n34 : Int, w32.cell? (Addr.add (Addr.add ⟨w.heap.size, 0, none⟩ 1) (Int.toNat (IntKind.wrap .i64 (2 * n25)) * 1)) = some (.int .u8 n34) ∧
              (
                (0 : Int) ≤ (IntKind.wrap .i64 ((IntKind.wrap .i64 (2 * n25)) + 1)) ∧ (IntKind.wrap .i64 ((IntKind.wrap .i64 (2 * n25)) + 1)) < ((16 : Nat) : Int))
              ∧ ¬ W33 (
              Addr.add (Addr.add ⟨w.heap.size, 0, none⟩ 1) (Int.toNat (IntKind.wrap .i64 ((IntKind.wrap .i64 (2 * n25)) + 1)) * 1)).block ∧
              ∃ n35 : Int, w32.cell? (
                Addr.add (Addr.add ⟨w.heap.size, 0, none⟩ 1) (Int.toNat (IntKind.wrap .i64 ((IntKind.wrap .i64 (2 * n25)) + 1)) * 1))
              = some (.int .u8 n35) ∧ Calls Tryz.prog F.ref12_Num #[.int .i64 (IntKind.wrap .i64 ((IntKind.wrap .i64 (256 * (IntKind.wrap .i64 n34))) + (IntKind.wrap .i64 n35))), .int .i64 16] w32 fun e37 w36 =>
              ∃ s38 : ByteArray, e37 = .returned (.string s38) ∧ Chg W33 w32 w36 ∧ ((ByteArray.size s24 + ByteArray.size s38 : Nat) : Int) ≤ 9223372036854775807 ∧
              (
                (decide ((n25 : Int) < 7)) = true → ((ByteArray.size (s24 ++ s38) + ByteArray.size (ByteArray.mk #[58]) : Nat) : Int) ≤ 9223372036854775807 ∧
                k31 ((s24 ++ s38) ++ (ByteArray.mk #[58])) w36)
              ∧ ((decide ((n25 : Int) < 7)) = false → k31 (s24 ++ s38) w36))
            (
              fun (s39 : ByteArray) (w40 : World) => I22 s39 (IntKind.wrap .i64 (n25 + 1)) w40 ∧
              μ23 s39 (IntKind.wrap .i64 (n25 + 1)) w40 < μ23 s24 n25 w26)
            )
          ∧ (b29 = false → Q (.string s24) w30))
        )
      )
    )
def A.ref12_Show : AT := (.seq (.reg []) (.seq (.reg []) (.seq (.seq (.reg []) (.cond (.seq (.reg []) .leaf) .leaf)) (.seq (.seq (.reg []) (.blk (.loop [(3, .str), (4, (.int .i64))] [1] (.seq (.seq (.reg [.run, .run, .run, .split 3]) (.cond .leaf .leaf)) (.seq (.jk [(3, .str)] [1, 4] (.blk (.seq (.reg []) (.seq (.reg []) (.cond (.reg []) .leaf))))) (.reg [])))))) (.seq (.seq (.reg []) (.blk (.loop [(3, .str), (5, (.int .i64))] [1] (.seq (.seq (.reg [.run, .run, .run, .split 2]) (.cond .leaf .leaf)) (.seq (.jk [(3, .str)] [1, 5] (.blk (.seq (.drw 17 true ⟨[0, 0, 2, 0, 12, 16, 32, 64, 0, 256, 512, 0, 3072, 4096, 8192, 16512, 32768, 65537, 262143], [0, 0, 2, 0, 12, 16, 32, 64, 0, 256, 512, 0, 3072, 4096, 8192, 16512, 32768, 65537, 131073]⟩ [549755813888, 1099511627776, 2199023255552, 4398046511104, 8796093022208, 17592186044416, 35184372088832, 70368744177664, 140737488355328, 281474976710656, 562949953421312, 1125899906842624, 2251799813685248, 4503599627370496, 9007199254740992, 18014398509481984, 36028797018963968, 72057594037927936, 8] [8, 32, 1099511627776, 2, 6597069766656, 8796093022208, 17592186044416, 35184372088832, 32, 140737488355328, 281474976710656, 2, 1688849860263936, 2251799813685248, 4503599627370496, 9077567998918656, 18014398509481984, 36029346774777856, 72057594037927936] (.take 0 (.take 1 (.take 2 (.take 3 (.take 4 (.take 5 (.take 6 (.take 7 (.take 8 (.take 9 (.take 10 (.take 11 (.take 12 (.take 13 (.take 14 (.take 15 (.eff 16 (.tail [.run, .run]))))))))))))))))))) (.seq (.reg []) (.cond (.reg []) .leaf))))) (.reg [])))))) (.seq (.reg []) .leaf))))))
theorem W.ref12_Show_eq (a : Array Value) (w : World) (Q : Value → World → Prop) : W.ref12_Show a w Q = DF Tryz.prog tk A.ref12_Show Tryz.f35 [.agg a] w Q := by kernel_rfl
theorem W.ref12_Show_ok (a : Array Value) (w : World) (Q : Value → World → Prop) (h : W.ref12_Show a w Q) : Calls Tryz.prog F.ref12_Show #[.agg a] w fun e w1 => ∃ v, e = .returned v ∧ Q v w1 :=
  calls_of_DF hmix Tryz.func35 (by kernel_rfl) (Eq.mp (W.ref12_Show_eq a w Q) h)

/-- stanchion/stanchionref29.on -/
def W.ref29_on (is : Bool) (w : World) (Q : Value → World → Prop) : Prop :=
  (is = true → Q (.string (ByteArray.mk #[32, 111, 110])) w) ∧ (is = false → Q (.string (ByteArray.mk #[32, 111, 102, 102])) w)
def A.ref29_on : AT := (.seq (.reg []) (.seq (.seq (.reg []) (.cond (.seq (.reg []) .leaf) .leaf)) (.seq (.reg []) .leaf)))
theorem W.ref29_on_eq (is : Bool) (w : World) (Q : Value → World → Prop) : W.ref29_on is w Q = DF Tryz.prog tk A.ref29_on Tryz.f36 [.bool is] w Q := by kernel_rfl
theorem W.ref29_on_ok (is : Bool) (w : World) (Q : Value → World → Prop) (h : W.ref29_on is w Q) : Calls Tryz.prog F.ref29_on #[.bool is] w fun e w1 => ∃ v, e = .returned v ∧ Q v w1 :=
  calls_of_DF hmix Tryz.func36 (by kernel_rfl) (Eq.mp (W.ref29_on_eq is w Q) h)

/-- stanchion/stanchionref12.Num -/
def W.ref12_Num (n : Int) (base : Int) (w : World) (Q : Value → World → Prop) : Prop :=
  (
    (decide ((n : Int) < base)) = true → (
      (0 : Int) ≤ (IntKind.wrap .i64 (n + 1)) ∧ (IntKind.wrap .i64 (n + 1)) ≤ (
        (
          (ByteArray.size (ByteArray.mk #[48, 49, 50, 51, 52, 53, 54, 55, 56, 57, 97, 98, 99, 100, 101, 102])) : Nat)
        : Int)
      )
    ∧ ((0 : Int) ≤ n ∧ n ≤ (((Int.toNat (IntKind.wrap .i64 (n + 1))) : Nat) : Int)) ∧
    Q (
      .string (
        ByteArray.extract (ByteArray.mk #[48, 49, 50, 51, 52, 53, 54, 55, 56, 57, 97, 98, 99, 100, 101, 102]) (Int.toNat n) (Int.toNat (IntKind.wrap .i64 (n + 1))))
      )
    w)
  ∧ (
    (decide ((n : Int) < base)) = false → Nx (w.drew) fun w1 => ∃ W2 : Nat → Prop, (base : Int) ≠ 0 ∧
    (base : Int) ≠ 0 ∧ Calls Tryz.prog F.ref12_Num #[.int .i64 (IntKind.wrap .i64 (Int.tdiv n base)), .int .i64 base] w1 fun e4 w3 =>
    ∃ s5 : ByteArray, e4 = .returned (.string s5) ∧ Calls Tryz.prog F.ref12_Num #[.int .i64 (Int.tmod n base), .int .i64 base] w3 fun e7 w6 =>
    ∃ s8 : ByteArray, e7 = .returned (.string s8) ∧ ((ByteArray.size s5 + ByteArray.size s8 : Nat) : Int) ≤ 9223372036854775807 ∧
    Q (.string (s5 ++ s8)) w6)
def A.ref12_Num : AT := (.seq (.reg []) (.seq (.seq (.reg []) (.cond (.seq (.reg []) .leaf) .leaf)) (.seq (.drw 9 true ⟨[0, 0, 3, 0, 12, 0, 0, 96, 0, 400, 528, 2047], [0, 0, 3, 0, 12, 0, 0, 96, 0, 384, 528, 1024]⟩ [4096, 8192, 16384, 32768, 65536, 131072, 262144, 524288, 1048576, 2097152, 4194304, 16] [1, 2, 12288, 2, 49152, 1, 2, 393216, 2, 1572864, 2162688, 4194304] (.take 0 (.take 1 (.take 2 (.take 3 (.take 5 (.take 6 (.take 7 (.take 8 (.out 4 false (.tail [.run, .run, .run]))))))))))) .leaf)))
theorem W.ref12_Num_eq (n : Int) (base : Int) (w : World) (Q : Value → World → Prop) : W.ref12_Num n base w Q = DF Tryz.prog tk A.ref12_Num Tryz.f60 [.int .i64 n, .int .i64 base] w Q := by kernel_rfl
theorem W.ref12_Num_ok (n : Int) (base : Int) (w : World) (Q : Value → World → Prop) (h : W.ref12_Num n base w Q) : Calls Tryz.prog F.ref12_Num #[.int .i64 n, .int .i64 base] w fun e w1 => ∃ v, e = .returned v ∧ Q v w1 :=
  calls_of_DF hmix Tryz.func60 (by kernel_rfl) (Eq.mp (W.ref12_Num_eq n base w Q) h)

end Go.Proofs.YtgljoledlhmhnaaGreatDoor


namespace Go.Proofs.YtgljoledlhmhnaaGreatDoor
open Go Gx
set_option maxRecDepth 100000
/-- stanchion/stanchionlaw29.ScriptPrints -/
def W.law29_ScriptPrints (l : Sl) (w : World) (Q : Value → World → Prop) : Prop :=
  Jn (
    fun k1 : Sl → World → Prop => (
      (decide ((((l.len : Nat) : Int) : Int) > 20)) = true → ((0 : Int) ≤ 20 ∧ 20 ≤ ((l.cap : Nat) : Int)) ∧
      k1 ⟨(cutA l.a 51 0 l.cap), ((Int.toNat 20) - 0), (l.cap - 0)⟩ w)
    ∧ ((decide ((((l.len : Nat) : Int) : Int) > 20)) = false → k1 l w))
  (
    fun (s2 : Sl) (w3 : World) => ∃ s4 : Sl, ∃ w5 : World, Sem.run Tryz.prog (Instr.buildSlice Ty.Sl_api_Op 0 #[]) w3 = .ok (.slice s4.a s4.len s4.cap) w5 ∧
    ∃ (I6 : ByteArray → Bool → Sl → Int → World → Prop) (μ7 : ByteArray → Bool → Sl → Int → World → Nat), I6 (ByteArray.mk #[]) false s4 0 w5 ∧
    ∀ (s8 : ByteArray) (b9 : Bool) (s10 : Sl) (n11 : Int) (w12 : World), I6 s8 b9 s10 n11 w12 →
    (
      (decide ((n11 : Int) < ((s2.len : Nat) : Int))) = true → ∃ a13 : Addr, s2.a = some a13 ∧
      ((0 : Int) ≤ n11 ∧ n11 < ((s2.len : Nat) : Int)) ∧ ∃ l14 : List Value, rdCells w12 (a13.add (Int.toNat n11 * 51)) 0 51 = some l14 ∧
      Calls Tryz.prog F.law29_Few #[.agg l14.toArray] w12 fun e16 w15 => ∃ c17 : Array Value, e16 = .returned (.agg c17) ∧
      ∃ s18 : Sl, ∃ w19 : World, Sem.run Tryz.prog (Instr.buildSlice Ty.Sl_api_Op 1 #[(0, .agg c17)]) w15 = .ok (.slice s18.a s18.len s18.cap) w19 ∧
      ∃ s20 : Sl, ∃ w21 : World, Sem.run Tryz.prog (
        Builtin.append_ #[Ty.Sl_api_Op, Ty.Sl_api_Op] Ty.Sl_api_Op #[.slice s10.a s10.len s10.cap, .slice s18.a s18.len s18.cap])
      w19 = .ok (.slice s20.a s20.len s20.cap) w21 ∧ ∃ a22 : Addr, s2.a = some a22 ∧
      ((0 : Int) ≤ n11 ∧ n11 < ((s2.len : Nat) : Int)) ∧ ∃ l23 : List Value, rdCells w21 (a22.add (Int.toNat n11 * 51)) 0 51 = some l23 ∧
      Calls Tryz.prog F.law29_Few #[.agg l23.toArray] w21 fun e25 w24 => ∃ c26 : Array Value, e25 = .returned (.agg c26) ∧
      Calls Tryz.prog F.ref29_Show #[.agg c26] w24 fun e28 w27 => ∃ s29 : ByteArray, e28 = .returned (.string s29) ∧
      ((ByteArray.size s8 + ByteArray.size s29 : Nat) : Int) ≤ 9223372036854775807 ∧
      ((ByteArray.size (s8 ++ s29) + ByteArray.size (ByteArray.mk #[10]) : Nat) : Int) ≤ 9223372036854775807 ∧
      I6 ((s8 ++ s29) ++ (ByteArray.mk #[10])) (b9 || (ByteArray.toList s29 == ByteArray.toList (ByteArray.mk #[]))) s20 (IntKind.wrap .i64 (n11 + 1)) w27 ∧
      μ7 ((s8 ++ s29) ++ (ByteArray.mk #[10])) (b9 || (ByteArray.toList s29 == ByteArray.toList (ByteArray.mk #[]))) s20 (IntKind.wrap .i64 (n11 + 1)) w27 < μ7 s8 b9 s10 n11 w12)
    ∧ (
      (decide ((n11 : Int) < ((s2.len : Nat) : Int))) = false → Calls Tryz.prog F.script_Print #[.slice s10.a s10.len s10.cap] w12 fun e31 w30 =>
      ∃ s32 : ByteArray, ∃ n33 : Int, e31 = .returned (.tuple #[.string s32, .int .i64 n33]) ∧
      (
        b9 = true → Jn (
          fun k34 : Bool → World → Prop => (
            ((ByteArray.toList s32 == ByteArray.toList (ByteArray.mk #[])) && ((n33 : Int) == 1)) = true →
            Calls Tryz.prog F.law29_lives #[] w30 fun e36 w35 => ∃ b37 : Bool, e36 = .returned (.bool b37) ∧
            k34 b37 w35)
          ∧ (
            ((ByteArray.toList s32 == ByteArray.toList (ByteArray.mk #[])) && ((n33 : Int) == 1)) = false →
            k34 false w30)
          )
        (fun (b38 : Bool) (w39 : World) => Q (.bool b38) w39))
      ∧ (
        b9 = false → Calls Tryz.prog F.script_Read #[.string s32] w30 fun e41 w40 =>
        ∃ s42 : Sl, ∃ n43 : Int, ∃ n44 : Int, e41 = .returned (.tuple #[.slice s42.a s42.len s42.cap, .int .i64 n43, .int .i64 n44]) ∧
        (
          (
            (
              (((!(ByteArray.toList s32 == ByteArray.toList s8)) || ((n33 : Int) != 0)) || ((n43 : Int) != 0)) || ((n44 : Int) != 0))
            || ((((s42.len : Nat) : Int) : Int) != ((s2.len : Nat) : Int)))
          = true → Q (.bool false) w40)
        ∧ (
          (
            (
              (((!(ByteArray.toList s32 == ByteArray.toList s8)) || ((n33 : Int) != 0)) || ((n43 : Int) != 0)) || ((n44 : Int) != 0))
            || ((((s42.len : Nat) : Int) : Int) != ((s2.len : Nat) : Int)))
          = false → ∃ (I45 : Int → World → Prop) (μ46 : Int → World → Nat), I45 0 w40 ∧
          ∀ (n47 : Int) (w48 : World), I45 n47 w48 → (
            (decide ((n47 : Int) < ((s42.len : Nat) : Int))) = true → Nx (w48.drew) fun w49 =>
            ∃ a50 : Addr, s42.a = some a50 ∧ ((0 : Int) ≤ n47 ∧ n47 < ((s42.len : Nat) : Int)) ∧
            ¬ False ∧ ∃ l51 : List Value, rdCells w49 (a50.add (Int.toNat n47 * 51)) 0 51 = some l51 ∧
            ∃ a52 : Addr, s10.a = some a52 ∧ ((0 : Int) ≤ n47 ∧ n47 < ((s10.len : Nat) : Int)) ∧
            ¬ False ∧ ∃ l53 : List Value, rdCells w49 (a52.add (Int.toNat n47 * 51)) 0 51 = some l53 ∧
            Calls Tryz.prog F.ref29_Same #[.agg l51.toArray, .agg l53.toArray] w49 fun e55 w54 =>
            ∃ b56 : Bool, e55 = .returned (.bool b56) ∧ ((!b56) = true → Q (.bool false) w54) ∧
            (
              (!b56) = false → I45 (IntKind.wrap .i64 (n47 + 1)) w54 ∧ μ46 (IntKind.wrap .i64 (n47 + 1)) w54 < μ46 n47 w48)
            )
          ∧ (
            (decide ((n47 : Int) < ((s42.len : Nat) : Int))) = false → Calls Tryz.prog F.law29_lives #[] w48 fun e58 w57 =>
            ∃ b59 : Bool, e58 = .returned (.bool b59) ∧ Q (.bool b59) w57)
          )
        )
      )
    )
def A.law29_ScriptPrints : AT := (.seq (.reg []) (.seq (.jk [(0, .slice)] [] (.seq (.reg []) (.cond (.reg []) .leaf))) (.seq (.reg []) (.seq (.seq (.reg []) (.blk (.loop [(3, .str), (4, .bool), (5, .slice), (6, (.int .i64))] [0] (.seq (.seq (.reg []) (.cond .leaf .leaf)) (.seq (.blk (.seq (.reg []) (.seq (.reg []) (.reg [.run, .run, .run, .run, .run, .run, .pure 2])))) (.reg [])))))) (.seq (.reg []) (.seq (.seq (.reg []) (.cond (.seq (.reg [.run, .run, .run, .pure 2, .run, .run, .run, .split 1]) .leaf) .leaf)) (.seq (.reg []) (.seq (.seq (.reg [.run, .run, .run, .run, .pure 2, .run, .run, .run, .pure 2, .run, .run, .run, .pure 2, .run, .run, .run, .pure 5]) (.cond (.seq (.reg []) .leaf) .leaf)) (.seq (.seq (.reg []) (.blk (.loop [(13, (.int .i64))] [5, 10] (.seq (.seq (.reg []) (.cond .leaf .leaf)) (.seq (.blk (.seq (.drw 8 false ⟨[0, 0, 3, 4, 0, 0, 48, 64, 136, 256], [0, 0, 3, 4, 0, 0, 48, 64, 136, 256]⟩ [316912650057057350374175801344, 633825300114114700748351602688, 1267650600228229401496703205376, 2535301200456458802993406410752, 5070602400912917605986812821504, 10141204801825835211973625643008, 20282409603651670423947251286016, 40564819207303340847894502572032, 81129638414606681695789005144064, 162259276829213363391578010288128] [1024, 8192, 950737950171172051122527404032, 1267650600228229401496703205376, 32, 8192, 15211807202738752817960438464512, 20282409603651670423947251286016, 43100120407759799650887908982784, 81129638414606681695789005144064] (.take 0 (.take 1 (.take 2 (.take 3 (.take 4 (.take 5 (.take 6 (.take 7 (.tail [.run, .run])))))))))) (.cond (.seq (.reg []) .leaf) .leaf))) (.reg [])))))) (.seq (.reg []) .leaf))))))))))
theorem W.law29_ScriptPrints_eq (l : Sl) (w : World) (Q : Value → World → Prop) : W.law29_ScriptPrints l w Q = DF Tryz.prog tk A.law29_ScriptPrints Tryz.f6 [.slice l.a l.len l.cap] w Q := by kernel_rfl
theorem W.law29_ScriptPrints_ok (l : Sl) (w : World) (Q : Value → World → Prop) (h : W.law29_ScriptPrints l w Q) : Calls Tryz.prog F.law29_ScriptPrints #[.slice l.a l.len l.cap] w fun e w1 => ∃ v, e = .returned v ∧ Q v w1 :=
  calls_of_DF hmix Tryz.func6 (by kernel_rfl) (Eq.mp (W.law29_ScriptPrints_eq l w Q) h)

/-- stanchion/stanchionlaw29.Few -/
def W.law29_Few (op : Array Value) (w : World) (Q : Value → World → Prop) : Prop :=
  Nx (w.alloc (.cells op Ty.api_Op)) fun w1 => Nx (
    w1.alloc (
      .cells #[.int .i64 0, .slice none 0 0, .int .i64 0, .int .i64 0, .int .u64 0, .bool false, .int .i64 0, .bool false, .int .u8 0, .int .u8 0, .int .u8 0, .int .u8 0, .int .u8 0, .int .u8 0, .int .u8 0, .int .u8 0, .int .u8 0, .int .u8 0, .int .u8 0, .int .u8 0, .int .u8 0, .int .u8 0, .int .u8 0, .int .u8 0, .int .u16 0, .int .u8 0, .int .i64 0, .int .u64 0, .slice none 0 0, .int .i64 0, .bool false, .int .u8 0, .int .u8 0, .int .u8 0, .int .u8 0, .int .u8 0, .int .u8 0, .int .u8 0, .int .u8 0, .int .u8 0, .int .u8 0, .int .u8 0, .int .u8 0, .int .u8 0, .int .u8 0, .int .u8 0, .int .u8 0, .int .u16 0, .int .i64 0, .bool false, .slice none 0 0] Ty.api_Op)
    )
  fun w2 => ∃ s3 : Sl, w2.cell? (Addr.add ⟨w.heap.size, 0, none⟩ 1) = some (.slice s3.a s3.len s3.cap) ∧
  Calls Tryz.prog F.law01_Few #[.slice s3.a s3.len s3.cap, .int .i64 2300] w2 fun e5 w4 =>
  ∃ s6 : Sl, e5 = .returned (.slice s6.a s6.len s6.cap) ∧ (∃ u : Value, w4.cell? (Addr.add ⟨w.heap.size, 0, none⟩ 1) = some u) ∧
  w4.frozen? (Addr.add ⟨w.heap.size, 0, none⟩ 1) = false ∧ Nx (w4.setCell (Addr.add ⟨w.heap.size, 0, none⟩ 1) (.slice s6.a s6.len s6.cap)) fun w7 =>
  Jn (
    fun k8 : World → Prop => ∃ s9 : Sl, w7.cell? (Addr.add ⟨w.heap.size, 0, none⟩ 50) = some (.slice s9.a s9.len s9.cap) ∧
    (
      (decide ((((s9.len : Nat) : Int) : Int) > 60)) = true → ∃ s10 : Sl, w7.cell? (Addr.add ⟨w.heap.size, 0, none⟩ 50) = some (.slice s10.a s10.len s10.cap) ∧
      ((0 : Int) ≤ 60 ∧ 60 ≤ ((s10.cap : Nat) : Int)) ∧ (∃ u : Value, w7.cell? (Addr.add ⟨w.heap.size, 0, none⟩ 50) = some u) ∧
      w7.frozen? (Addr.add ⟨w.heap.size, 0, none⟩ 50) = false ∧ Nx (
        w7.setCell (Addr.add ⟨w.heap.size, 0, none⟩ 50) (.slice (cutA s10.a 1 0 s10.cap) ((Int.toNat 60) - 0) (s10.cap - 0)))
      fun w11 => k8 w11)
    ∧ ((decide ((((s9.len : Nat) : Int) : Int) > 60)) = false → k8 w7))
  (
    fun  (w12 : World) => Nx (w12.alloc (.cells #[] Ty.int)) fun w13 => ∃ s14 : Sl, w13.cell? (Addr.add ⟨w.heap.size, 0, none⟩ 50) = some (.slice s14.a s14.len s14.cap) ∧
    ∃ s15 : Sl, ∃ w16 : World, Sem.run Tryz.prog (
      Builtin.append_ #[Ty.Sl_int, Ty.Sl_int] Ty.Sl_int #[.slice (some ⟨w12.heap.size, 0, none⟩) 0 0, .slice s14.a s14.len s14.cap])
    w13 = .ok (.slice s15.a s15.len s15.cap) w16 ∧ (∃ u : Value, w16.cell? (Addr.add ⟨w.heap.size, 0, none⟩ 50) = some u) ∧
    w16.frozen? (Addr.add ⟨w.heap.size, 0, none⟩ 50) = false ∧ Nx (w16.setCell (Addr.add ⟨w.heap.size, 0, none⟩ 50) (.slice s15.a s15.len s15.cap)) fun w17 =>
    ∃ s18 : Sl, w17.cell? ((Addr.add ⟨w.heap.size, 0, none⟩ 6).add 22) = some (.slice s18.a s18.len s18.cap) ∧
    Jn (
      fun k19 : Sl → World → Prop => (
        (decide ((((s18.len : Nat) : Int) : Int) > 2)) = true → ((0 : Int) ≤ 2 ∧ 2 ≤ ((s18.cap : Nat) : Int)) ∧
        k19 ⟨(cutA s18.a 21 0 s18.cap), ((Int.toNat 2) - 0), (s18.cap - 0)⟩ w17)
      ∧ ((decide ((((s18.len : Nat) : Int) : Int) > 2)) = false → k19 s18 w17))
    (
      fun (s20 : Sl) (w21 : World) => ∃ s22 : Sl, ∃ w23 : World, Sem.run Tryz.prog (Instr.buildSlice Ty.Sl_api_Backend 0 #[]) w21 = .ok (.slice s22.a s22.len s22.cap) w23 ∧
      ∃ s24 : Sl, ∃ w25 : World, Sem.run Tryz.prog (
        Builtin.append_ #[Ty.Sl_api_Backend, Ty.Sl_api_Backend] Ty.Sl_api_Backend #[.slice s22.a s22.len s22.cap, .slice s20.a s20.len s20.cap])
      w23 = .ok (.slice s24.a s24.len s24.cap) w25 ∧ (∃ u : Value, w25.cell? ((Addr.add ⟨w.heap.size, 0, none⟩ 6).add 22) = some u) ∧
      w25.frozen? ((Addr.add ⟨w.heap.size, 0, none⟩ 6).add 22) = false ∧ Nx (w25.setCell ((Addr.add ⟨w.heap.size, 0, none⟩ 6).add 22) (.slice s24.a s24.len s24.cap)) fun w26 =>
      ∃ l27 : List Value, rdCells w26 ⟨w.heap.size, 0, none⟩ 0 51 = some l27 ∧ StoreOk w26 ⟨w1.heap.size, 0, none⟩ (Array.toList l27.toArray) ∧
      Array.size l27.toArray = 51 ∧ Nx (setCells w26 ⟨w1.heap.size, 0, none⟩ 0 (Array.toList l27.toArray)) fun w28 =>
      ∃ l29 : List Value, rdCells w28 ⟨w1.heap.size, 0, none⟩ 0 51 = some l29 ∧
      Q (.agg l29.toArray) w28)
    )
def A.law29_Few : AT := (.seq (.reg []) (.seq (.reg []) (.seq (.jk [] [1, 2] (.seq (.reg []) (.cond (.reg []) .leaf))) (.seq (.reg []) (.seq (.reg []) (.seq (.jk [(3, .slice)] [1, 2] (.seq (.reg []) (.cond (.reg []) .leaf))) (.seq (.reg []) (.seq (.reg []) .leaf))))))))
theorem W.law29_Few_eq (op : Array Value) (w : World) (Q : Value → World → Prop) : W.law29_Few op w Q = DF Tryz.prog tk A.law29_Few Tryz.f9 [.agg op] w Q := by kernel_rfl
theorem W.law29_Few_ok (op : Array Value) (w : World) (Q : Value → World → Prop) (h : W.law29_Few op w Q) : Calls Tryz.prog F.law29_Few #[.agg op] w fun e w1 => ∃ v, e = .returned v ∧ Q v w1 :=
  calls_of_DF hmix Tryz.func9 (by kernel_rfl) (Eq.mp (W.law29_Few_eq op w Q) h)

/-- stanchion/stanchionlaw29.lives -/
def W.law29_lives  (w : World) (Q : Value → World → Prop) : Prop :=
  Calls Tryz.prog F.script_Parse #[.string (ByteArray.mk #[100, 114, 97, 105, 110, 32, 49, 32, 50, 32, 111, 110])] w fun e2 w1 =>
  ∃ c3 : Array Value, ∃ b4 : Bool, e2 = .returned (.tuple #[.agg c3, .bool b4]) ∧
  Nx (
    w1.alloc (
      .cells #[.int .i64 0, .slice none 0 0, .int .i64 0, .int .i64 0, .int .u64 0, .bool false, .int .i64 0, .bool false, .int .u8 0, .int .u8 0, .int .u8 0, .int .u8 0, .int .u8 0, .int .u8 0, .int .u8 0, .int .u8 0, .int .u8 0, .int .u8 0, .int .u8 0, .int .u8 0, .int .u8 0, .int .u8 0, .int .u8 0, .int .u8 0, .int .u16 0, .int .u8 0, .int .i64 0, .int .u64 0, .slice none 0 0, .int .i64 0, .bool false, .int .u8 0, .int .u8 0, .int .u8 0, .int .u8 0, .int .u8 0, .int .u8 0, .int .u8 0, .int .u8 0, .int .u8 0, .int .u8 0, .int .u8 0, .int .u8 0, .int .u8 0, .int .u8 0, .int .u8 0, .int .u8 0, .int .u16 0, .int .i64 0, .bool false, .slice none 0 0] Ty.api_Op)
    )
  fun w5 => StoreOk w5 ⟨w1.heap.size, 0, none⟩ (Array.toList c3) ∧ Array.size c3 = 51 ∧
  Nx (setCells w5 ⟨w1.heap.size, 0, none⟩ 0 (Array.toList c3)) fun w6 => Jn (
    fun k7 : Bool → World → Prop => (
      b4 = true → ∃ n8 : Int, w6.cell? ⟨w1.heap.size, 0, none⟩ = some (.int .i64 n8) ∧
      k7 ((n8 : Int) == 7) w6)
    ∧ (b4 = false → k7 false w6))
  (
    fun (b9 : Bool) (w10 : World) => Jn (
      fun k11 : Bool → World → Prop => (
        b9 = true → ∃ b12 : Bool, w10.cell? (Addr.add ⟨w1.heap.size, 0, none⟩ 5) = some (.bool b12) ∧
        k11 b12 w10)
      ∧ (b9 = false → k11 false w10))
    (
      fun (b13 : Bool) (w14 : World) => Jn (
        fun k15 : Bool → World → Prop => (
          b13 = true → ∃ l16 : List Value, rdCells w14 ⟨w1.heap.size, 0, none⟩ 0 51 = some l16 ∧
          Calls Tryz.prog F.script_Show #[.agg l16.toArray] w14 fun e18 w17 => ∃ s19 : ByteArray, e18 = .returned (.string s19) ∧
          k15 (
            ByteArray.toList s19 == ByteArray.toList (ByteArray.mk #[100, 114, 97, 105, 110, 32, 49, 32, 50, 32, 111, 110]))
          w17)
        ∧ (b13 = false → k15 false w14))
      (fun (b20 : Bool) (w21 : World) => Q (.bool b20) w21))
    )
def A.law29_lives : AT := (.seq (.reg []) (.seq (.reg []) (.seq (.reg [.run, .run, .split 3, .run, .run, .run, .run, .split 2, .run, .run, .run, .split 3]) .leaf)))
theorem W.law29_lives_eq  (w : World) (Q : Value → World → Prop) : W.law29_lives  w Q = DF Tryz.prog tk A.law29_lives Tryz.f14 [] w Q := by kernel_rfl
theorem W.law29_lives_ok  (w : World) (Q : Value → World → Prop) (h : W.law29_lives  w Q) : Calls Tryz.prog F.law29_lives #[] w fun e w1 => ∃ v, e = .returned v ∧ Q v w1 :=
  calls_of_DF hmix Tryz.func14 (by kernel_rfl) (Eq.mp (W.law29_lives_eq  w Q) h)

/-- stanchion/stanchionlaw01.Few -/
def W.law01_Few (b : Sl) (most : Int) (w : World) (Q : Value → World → Prop) : Prop :=
  Jn (
    fun k1 : Sl → World → Prop => (
      (decide ((((b.len : Nat) : Int) : Int) > most)) = true → ((0 : Int) ≤ most ∧ most ≤ ((b.cap : Nat) : Int)) ∧
      k1 ⟨(cutA b.a 1 0 b.cap), ((Int.toNat most) - 0), (b.cap - 0)⟩ w)
    ∧ ((decide ((((b.len : Nat) : Int) : Int) > most)) = false → k1 b w))
  (
    fun (s2 : Sl) (w3 : World) => Nx (w3.alloc (.cells #[] Ty.uint8)) fun w4 =>
    ∃ s5 : Sl, ∃ w6 : World, Sem.run Tryz.prog (
      Builtin.append_ #[Ty.Sl_uint8, Ty.Sl_uint8] Ty.Sl_uint8 #[.slice (some ⟨w3.heap.size, 0, none⟩) 0 0, .slice s2.a s2.len s2.cap])
    w4 = .ok (.slice s5.a s5.len s5.cap) w6 ∧ Q (.slice s5.a s5.len s5.cap) w6)
def A.law01_Few : AT := (.seq (.reg []) (.seq (.jk [(0, .slice)] [] (.seq (.reg []) (.cond (.reg []) .leaf))) (.seq (.reg []) .leaf)))
theorem W.law01_Few_eq (b : Sl) (most : Int) (w : World) (Q : Value → World → Prop) : W.law01_Few b most w Q = DF Tryz.prog tk A.law01_Few Tryz.f28 [.slice b.a b.len b.cap, .int .i64 most] w Q := by kernel_rfl
theorem W.law01_Few_ok (b : Sl) (most : Int) (w : World) (Q : Value → World → Prop) (h : W.law01_Few b most w Q) : Calls Tryz.prog F.law01_Few #[.slice b.a b.len b.cap, .int .i64 most] w fun e w1 => ∃ v, e = .returned v ∧ Q v w1 :=
  calls_of_DF hmix Tryz.func28 (by kernel_rfl) (Eq.mp (W.law01_Few_eq b most w Q) h)

end Go.Proofs.YtgljoledlhmhnaaGreatDoor

