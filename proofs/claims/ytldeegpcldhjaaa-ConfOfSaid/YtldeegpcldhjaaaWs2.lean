/- Printed by gen.py: each function of the program as what must be shown of it. -/
import Derived.Test.YtldeegpcldhjaaaGb
namespace Go.Proofs.Ytldeegpcldhjaaa
open Go Gx
set_option maxRecDepth 100000
/-- slices.partitionOrdered[int] -/
def W.slices_partitionOrdered_int (data : Sl) (a : Int) (b : Int) (pivot : Int) (w : World) (Q : Value → World → Prop) : Prop :=
  Nx (w.drew) fun w1 => ∃ W2 : Nat → Prop, ∃ a3 : Addr, data.a = some a3 ∧ ((0 : Int) ≤ pivot ∧ pivot < ((data.len : Nat) : Int)) ∧
  ¬ W2 (a3.add (Int.toNat pivot * 1)).block ∧ ∃ n4 : Int, w1.cell? (a3.add (Int.toNat pivot * 1)) = some (.int .i64 n4) ∧
  ∃ a5 : Addr, data.a = some a5 ∧ ((0 : Int) ≤ a ∧ a < ((data.len : Nat) : Int)) ∧
  ¬ W2 (a5.add (Int.toNat a * 1)).block ∧ ∃ n6 : Int, w1.cell? (a5.add (Int.toNat a * 1)) = some (.int .i64 n6) ∧
  ∃ a7 : Addr, data.a = some a7 ∧ ((0 : Int) ≤ a ∧ a < ((data.len : Nat) : Int)) ∧
  (∃ u : Value, w1.cell? (a7.add (Int.toNat a * 1)) = some u) ∧ w1.frozen? (a7.add (Int.toNat a * 1)) = false ∧
  Nx (w1.setCell (a7.add (Int.toNat a * 1)) (.int .i64 n4)) fun w8 => ∃ a9 : Addr, data.a = some a9 ∧
  ((0 : Int) ≤ pivot ∧ pivot < ((data.len : Nat) : Int)) ∧ (∃ u : Value, w8.cell? (a9.add (Int.toNat pivot * 1)) = some u) ∧
  w8.frozen? (a9.add (Int.toNat pivot * 1)) = false ∧ Nx (w8.setCell (a9.add (Int.toNat pivot * 1)) (.int .i64 n6)) fun w10 =>
  ∃ (I11 : Int → World → Prop) (μ12 : Int → World → Nat), I11 (IntKind.wrap .i64 (a + 1)) w10 ∧
  ∀ (n13 : Int) (w14 : World), I11 n13 w14 → Nx (w14.drew) fun w15 => (
    (decide ((n13 : Int) ≤ (IntKind.wrap .i64 (b - 1)))) = true → ∃ a16 : Addr, data.a = some a16 ∧
    ((0 : Int) ≤ n13 ∧ n13 < ((data.len : Nat) : Int)) ∧ ¬ False ∧ ∃ n17 : Int, w15.cell? (a16.add (Int.toNat n13 * 1)) = some (.int .i64 n17) ∧
    ∃ a18 : Addr, data.a = some a18 ∧ ((0 : Int) ≤ a ∧ a < ((data.len : Nat) : Int)) ∧
    ¬ False ∧ ∃ n19 : Int, w15.cell? (a18.add (Int.toNat a * 1)) = some (.int .i64 n19) ∧
    Calls Try.prog F.cmp_Less_int #[.int .i64 n17, .int .i64 n19] w15 fun e21 w20 =>
    ∃ b22 : Bool, e21 = .returned (.bool b22) ∧ (
      b22 = true → I11 (IntKind.wrap .i64 (n13 + 1)) w20 ∧ μ12 (IntKind.wrap .i64 (n13 + 1)) w20 < μ12 n13 w14)
    ∧ (
      b22 = false → ∃ (I23 : Int → World → Prop) (μ24 : Int → World → Nat), I23 (IntKind.wrap .i64 (b - 1)) w20 ∧
      ∀ (n25 : Int) (w26 : World), I23 n25 w26 → Nx (w26.drew) fun w27 => (
        (decide ((n13 : Int) ≤ n25)) = true → ∃ a28 : Addr, data.a = some a28 ∧ ((0 : Int) ≤ n25 ∧ n25 < ((data.len : Nat) : Int)) ∧
        ¬ False ∧ ∃ n29 : Int, w27.cell? (a28.add (Int.toNat n25 * 1)) = some (.int .i64 n29) ∧
        ∃ a30 : Addr, data.a = some a30 ∧ ((0 : Int) ≤ a ∧ a < ((data.len : Nat) : Int)) ∧
        ¬ False ∧ ∃ n31 : Int, w27.cell? (a30.add (Int.toNat a * 1)) = some (.int .i64 n31) ∧
        Calls Try.prog F.cmp_Less_int #[.int .i64 n29, .int .i64 n31] w27 fun e33 w32 =>
        ∃ b34 : Bool, e33 = .returned (.bool b34) ∧ (
          (!b34) = true → I23 (IntKind.wrap .i64 (n25 - 1)) w32 ∧ μ24 (IntKind.wrap .i64 (n25 - 1)) w32 < μ24 n25 w26)
        ∧ (
          (!b34) = false → (
            (decide ((n13 : Int) > n25)) = true → Nx (w32.drew) fun w35 => ∃ W36 : Nat →
            Prop, ∃ a37 : Addr, data.a = some a37 ∧ ((0 : Int) ≤ a ∧ a < ((data.len : Nat) : Int)) ∧
            ¬ W36 (a37.add (Int.toNat a * 1)).block ∧ ∃ n38 : Int, w35.cell? (a37.add (Int.toNat a * 1)) = some (.int .i64 n38) ∧
            ∃ a39 : Addr, data.a = some a39 ∧ ((0 : Int) ≤ n25 ∧ n25 < ((data.len : Nat) : Int)) ∧
            ¬ W36 (a39.add (Int.toNat n25 * 1)).block ∧ ∃ n40 : Int, w35.cell? (a39.add (Int.toNat n25 * 1)) = some (.int .i64 n40) ∧
            ∃ a41 : Addr, data.a = some a41 ∧ ((0 : Int) ≤ n25 ∧ n25 < ((data.len : Nat) : Int)) ∧
            (∃ u : Value, w35.cell? (a41.add (Int.toNat n25 * 1)) = some u) ∧ w35.frozen? (a41.add (Int.toNat n25 * 1)) = false ∧
            Nx (w35.setCell (a41.add (Int.toNat n25 * 1)) (.int .i64 n38)) fun w42 => ∃ a43 : Addr, data.a = some a43 ∧
            ((0 : Int) ≤ a ∧ a < ((data.len : Nat) : Int)) ∧ (∃ u : Value, w42.cell? (a43.add (Int.toNat a * 1)) = some u) ∧
            w42.frozen? (a43.add (Int.toNat a * 1)) = false ∧ Nx (w42.setCell (a43.add (Int.toNat a * 1)) (.int .i64 n40)) fun w44 =>
            Q (.tuple #[.int .i64 n25, .bool true]) w44)
          ∧ (
            (decide ((n13 : Int) > n25)) = false → Nx (w32.drew) fun w45 => ∃ W46 : Nat →
            Prop, ∃ a47 : Addr, data.a = some a47 ∧ ((0 : Int) ≤ n25 ∧ n25 < ((data.len : Nat) : Int)) ∧
            ¬ W46 (a47.add (Int.toNat n25 * 1)).block ∧ ∃ n48 : Int, w45.cell? (a47.add (Int.toNat n25 * 1)) = some (.int .i64 n48) ∧
            ∃ a49 : Addr, data.a = some a49 ∧ ((0 : Int) ≤ n13 ∧ n13 < ((data.len : Nat) : Int)) ∧
            ¬ W46 (a49.add (Int.toNat n13 * 1)).block ∧ ∃ n50 : Int, w45.cell? (a49.add (Int.toNat n13 * 1)) = some (.int .i64 n50) ∧
            ∃ a51 : Addr, data.a = some a51 ∧ ((0 : Int) ≤ n13 ∧ n13 < ((data.len : Nat) : Int)) ∧
            (∃ u : Value, w45.cell? (a51.add (Int.toNat n13 * 1)) = some u) ∧ w45.frozen? (a51.add (Int.toNat n13 * 1)) = false ∧
            Nx (w45.setCell (a51.add (Int.toNat n13 * 1)) (.int .i64 n48)) fun w52 => ∃ a53 : Addr, data.a = some a53 ∧
            ((0 : Int) ≤ n25 ∧ n25 < ((data.len : Nat) : Int)) ∧ (∃ u : Value, w52.cell? (a53.add (Int.toNat n25 * 1)) = some u) ∧
            w52.frozen? (a53.add (Int.toNat n25 * 1)) = false ∧ Nx (w52.setCell (a53.add (Int.toNat n25 * 1)) (.int .i64 n50)) fun w54 =>
            ∃ (I55 : Int → Int → World → Prop) (μ56 : Int → Int → World → Nat), I55 (IntKind.wrap .i64 (n13 + 1)) (IntKind.wrap .i64 (n25 - 1)) w54 ∧
            ∀ (n57 : Int) (n58 : Int) (w59 : World), I55 n57 n58 w59 → ∃ (I60 : Int → World → Prop) (μ61 : Int → World → Nat), I60 n57 w59 ∧
            ∀ (n62 : Int) (w63 : World), I60 n62 w63 → Nx (w63.drew) fun w64 => (
              (decide ((n62 : Int) ≤ n58)) = true → ∃ a65 : Addr, data.a = some a65 ∧ ((0 : Int) ≤ n62 ∧ n62 < ((data.len : Nat) : Int)) ∧
              ¬ False ∧ ∃ n66 : Int, w64.cell? (a65.add (Int.toNat n62 * 1)) = some (.int .i64 n66) ∧
              ∃ a67 : Addr, data.a = some a67 ∧ ((0 : Int) ≤ a ∧ a < ((data.len : Nat) : Int)) ∧
              ¬ False ∧ ∃ n68 : Int, w64.cell? (a67.add (Int.toNat a * 1)) = some (.int .i64 n68) ∧
              Calls Try.prog F.cmp_Less_int #[.int .i64 n66, .int .i64 n68] w64 fun e70 w69 =>
              ∃ b71 : Bool, e70 = .returned (.bool b71) ∧ (
                b71 = true → I60 (IntKind.wrap .i64 (n62 + 1)) w69 ∧ μ61 (IntKind.wrap .i64 (n62 + 1)) w69 < μ61 n62 w63)
              ∧ (
                b71 = false → ∃ (I72 : Int → World → Prop) (μ73 : Int → World → Nat), I72 n58 w69 ∧
                ∀ (n74 : Int) (w75 : World), I72 n74 w75 → Nx (w75.drew) fun w76 => (
                  (decide ((n62 : Int) ≤ n74)) = true → ∃ a77 : Addr, data.a = some a77 ∧ ((0 : Int) ≤ n74 ∧ n74 < ((data.len : Nat) : Int)) ∧
                  ¬ False ∧ ∃ n78 : Int, w76.cell? (a77.add (Int.toNat n74 * 1)) = some (.int .i64 n78) ∧
                  ∃ a79 : Addr, data.a = some a79 ∧ ((0 : Int) ≤ a ∧ a < ((data.len : Nat) : Int)) ∧
                  ¬ False ∧ ∃ n80 : Int, w76.cell? (a79.add (Int.toNat a * 1)) = some (.int .i64 n80) ∧
                  Calls Try.prog F.cmp_Less_int #[.int .i64 n78, .int .i64 n80] w76 fun e82 w81 =>
                  ∃ b83 : Bool, e82 = .returned (.bool b83) ∧ (
                    (!b83) = true → I72 (IntKind.wrap .i64 (n74 - 1)) w81 ∧ μ73 (IntKind.wrap .i64 (n74 - 1)) w81 < μ73 n74 w75)
                  ∧ (
                    (!b83) = false → (
                      (decide ((n62 : Int) > n74)) = true → Nx (w81.drew) fun w84 => ∃ W85 : Nat →
                      Prop, ∃ a86 : Addr, data.a = some a86 ∧ ((0 : Int) ≤ a ∧ a < ((data.len : Nat) : Int)) ∧
                      ¬ W85 (a86.add (Int.toNat a * 1)).block ∧ ∃ n87 : Int, w84.cell? (a86.add (Int.toNat a * 1)) = some (.int .i64 n87) ∧
                      ∃ a88 : Addr, data.a = some a88 ∧ ((0 : Int) ≤ n74 ∧ n74 < ((data.len : Nat) : Int)) ∧
                      ¬ W85 (a88.add (Int.toNat n74 * 1)).block ∧ ∃ n89 : Int, w84.cell? (a88.add (Int.toNat n74 * 1)) = some (.int .i64 n89) ∧
                      ∃ a90 : Addr, data.a = some a90 ∧ ((0 : Int) ≤ n74 ∧ n74 < ((data.len : Nat) : Int)) ∧
                      (∃ u : Value, w84.cell? (a90.add (Int.toNat n74 * 1)) = some u) ∧ w84.frozen? (a90.add (Int.toNat n74 * 1)) = false ∧
                      Nx (w84.setCell (a90.add (Int.toNat n74 * 1)) (.int .i64 n87)) fun w91 => ∃ a92 : Addr, data.a = some a92 ∧
                      ((0 : Int) ≤ a ∧ a < ((data.len : Nat) : Int)) ∧ (∃ u : Value, w91.cell? (a92.add (Int.toNat a * 1)) = some u) ∧
                      w91.frozen? (a92.add (Int.toNat a * 1)) = false ∧ Nx (w91.setCell (a92.add (Int.toNat a * 1)) (.int .i64 n89)) fun w93 =>
                      Q (.tuple #[.int .i64 n74, .bool false]) w93)
                    ∧ (
                      (decide ((n62 : Int) > n74)) = false → Nx (w81.drew) fun w94 => ∃ W95 : Nat →
                      Prop, ∃ a96 : Addr, data.a = some a96 ∧ ((0 : Int) ≤ n74 ∧ n74 < ((data.len : Nat) : Int)) ∧
                      ¬ W95 (a96.add (Int.toNat n74 * 1)).block ∧ ∃ n97 : Int, w94.cell? (a96.add (Int.toNat n74 * 1)) = some (.int .i64 n97) ∧
                      ∃ a98 : Addr, data.a = some a98 ∧ ((0 : Int) ≤ n62 ∧ n62 < ((data.len : Nat) : Int)) ∧
                      ¬ W95 (a98.add (Int.toNat n62 * 1)).block ∧ ∃ n99 : Int, w94.cell? (a98.add (Int.toNat n62 * 1)) = some (.int .i64 n99) ∧
                      ∃ a100 : Addr, data.a = some a100 ∧ ((0 : Int) ≤ n62 ∧ n62 < ((data.len : Nat) : Int)) ∧
                      (∃ u : Value, w94.cell? (a100.add (Int.toNat n62 * 1)) = some u) ∧ w94.frozen? (a100.add (Int.toNat n62 * 1)) = false ∧
                      Nx (w94.setCell (a100.add (Int.toNat n62 * 1)) (.int .i64 n97)) fun w101 =>
                      ∃ a102 : Addr, data.a = some a102 ∧ ((0 : Int) ≤ n74 ∧ n74 < ((data.len : Nat) : Int)) ∧
                      (∃ u : Value, w101.cell? (a102.add (Int.toNat n74 * 1)) = some u) ∧ w101.frozen? (a102.add (Int.toNat n74 * 1)) = false ∧
                      Nx (w101.setCell (a102.add (Int.toNat n74 * 1)) (.int .i64 n99)) fun w103 =>
                      I55 (IntKind.wrap .i64 (n62 + 1)) (IntKind.wrap .i64 (n74 - 1)) w103 ∧ μ56 (IntKind.wrap .i64 (n62 + 1)) (IntKind.wrap .i64 (n74 - 1)) w103 < μ56 n57 n58 w59)
                    )
                  )
                ∧ (
                  (decide ((n62 : Int) ≤ n74)) = false → (
                    false = true → I72 (IntKind.wrap .i64 (n74 - 1)) w76 ∧ μ73 (IntKind.wrap .i64 (n74 - 1)) w76 < μ73 n74 w75)
                  ∧ (
                    false = false → (
                      (decide ((n62 : Int) > n74)) = true → Nx (w76.drew) fun w104 => ∃ W105 : Nat →
                      Prop, ∃ a106 : Addr, data.a = some a106 ∧ ((0 : Int) ≤ a ∧ a < ((data.len : Nat) : Int)) ∧
                      ¬ W105 (a106.add (Int.toNat a * 1)).block ∧ ∃ n107 : Int, w104.cell? (a106.add (Int.toNat a * 1)) = some (.int .i64 n107) ∧
                      ∃ a108 : Addr, data.a = some a108 ∧ ((0 : Int) ≤ n74 ∧ n74 < ((data.len : Nat) : Int)) ∧
                      ¬ W105 (a108.add (Int.toNat n74 * 1)).block ∧ ∃ n109 : Int, w104.cell? (a108.add (Int.toNat n74 * 1)) = some (.int .i64 n109) ∧
                      ∃ a110 : Addr, data.a = some a110 ∧ ((0 : Int) ≤ n74 ∧ n74 < ((data.len : Nat) : Int)) ∧
                      (∃ u : Value, w104.cell? (a110.add (Int.toNat n74 * 1)) = some u) ∧ w104.frozen? (a110.add (Int.toNat n74 * 1)) = false ∧
                      Nx (w104.setCell (a110.add (Int.toNat n74 * 1)) (.int .i64 n107)) fun w111 =>
                      ∃ a112 : Addr, data.a = some a112 ∧ ((0 : Int) ≤ a ∧ a < ((data.len : Nat) : Int)) ∧
                      (∃ u : Value, w111.cell? (a112.add (Int.toNat a * 1)) = some u) ∧ w111.frozen? (a112.add (Int.toNat a * 1)) = false ∧
                      Nx (w111.setCell (a112.add (Int.toNat a * 1)) (.int .i64 n109)) fun w113 =>
                      Q (.tuple #[.int .i64 n74, .bool false]) w113)
                    ∧ (
                      (decide ((n62 : Int) > n74)) = false → Nx (w76.drew) fun w114 => ∃ W115 : Nat →
                      Prop, ∃ a116 : Addr, data.a = some a116 ∧ ((0 : Int) ≤ n74 ∧ n74 < ((data.len : Nat) : Int)) ∧
                      ¬ W115 (a116.add (Int.toNat n74 * 1)).block ∧ ∃ n117 : Int, w114.cell? (a116.add (Int.toNat n74 * 1)) = some (.int .i64 n117) ∧
                      ∃ a118 : Addr, data.a = some a118 ∧ ((0 : Int) ≤ n62 ∧ n62 < ((data.len : Nat) : Int)) ∧
                      ¬ W115 (a118.add (Int.toNat n62 * 1)).block ∧ ∃ n119 : Int, w114.cell? (a118.add (Int.toNat n62 * 1)) = some (.int .i64 n119) ∧
                      ∃ a120 : Addr, data.a = some a120 ∧ ((0 : Int) ≤ n62 ∧ n62 < ((data.len : Nat) : Int)) ∧
                      (∃ u : Value, w114.cell? (a120.add (Int.toNat n62 * 1)) = some u) ∧ w114.frozen? (a120.add (Int.toNat n62 * 1)) = false ∧
                      Nx (w114.setCell (a120.add (Int.toNat n62 * 1)) (.int .i64 n117)) fun w121 =>
                      ∃ a122 : Addr, data.a = some a122 ∧ ((0 : Int) ≤ n74 ∧ n74 < ((data.len : Nat) : Int)) ∧
                      (∃ u : Value, w121.cell? (a122.add (Int.toNat n74 * 1)) = some u) ∧ w121.frozen? (a122.add (Int.toNat n74 * 1)) = false ∧
                      Nx (w121.setCell (a122.add (Int.toNat n74 * 1)) (.int .i64 n119)) fun w123 =>
                      I55 (IntKind.wrap .i64 (n62 + 1)) (IntKind.wrap .i64 (n74 - 1)) w123 ∧ μ56 (IntKind.wrap .i64 (n62 + 1)) (IntKind.wrap .i64 (n74 - 1)) w123 < μ56 n57 n58 w59)
                    )
                  )
                )
              )
            ∧ (
              (decide ((n62 : Int) ≤ n58)) = false → (
                false = true → I60 (IntKind.wrap .i64 (n62 + 1)) w64 ∧ μ61 (IntKind.wrap .i64 (n62 + 1)) w64 < μ61 n62 w63)
              ∧ (
                false = false → ∃ (I124 : Int → World → Prop) (μ125 : Int → World → Nat), I124 n58 w64 ∧
                ∀ (n126 : Int) (w127 : World), I124 n126 w127 → Nx (w127.drew) fun w128 =>
                (
                  (decide ((n62 : Int) ≤ n126)) = true → ∃ a129 : Addr, data.a = some a129 ∧
                  ((0 : Int) ≤ n126 ∧ n126 < ((data.len : Nat) : Int)) ∧ ¬ False ∧ ∃ n130 : Int, w128.cell? (a129.add (Int.toNat n126 * 1)) = some (.int .i64 n130) ∧
                  ∃ a131 : Addr, data.a = some a131 ∧ ((0 : Int) ≤ a ∧ a < ((data.len : Nat) : Int)) ∧
                  ¬ False ∧ ∃ n132 : Int, w128.cell? (a131.add (Int.toNat a * 1)) = some (.int .i64 n132) ∧
                  Calls Try.prog F.cmp_Less_int #[.int .i64 n130, .int .i64 n132] w128 fun e134 w133 =>
                  ∃ b135 : Bool, e134 = .returned (.bool b135) ∧ (
                    (!b135) = true → I124 (IntKind.wrap .i64 (n126 - 1)) w133 ∧ μ125 (IntKind.wrap .i64 (n126 - 1)) w133 < μ125 n126 w127)
                  ∧ (
                    (!b135) = false → (
                      (decide ((n62 : Int) > n126)) = true → Nx (w133.drew) fun w136 => ∃ W137 : Nat →
                      Prop, ∃ a138 : Addr, data.a = some a138 ∧ ((0 : Int) ≤ a ∧ a < ((data.len : Nat) : Int)) ∧
                      ¬ W137 (a138.add (Int.toNat a * 1)).block ∧ ∃ n139 : Int, w136.cell? (a138.add (Int.toNat a * 1)) = some (.int .i64 n139) ∧
                      ∃ a140 : Addr, data.a = some a140 ∧ ((0 : Int) ≤ n126 ∧ n126 < ((data.len : Nat) : Int)) ∧
                      ¬ W137 (a140.add (Int.toNat n126 * 1)).block ∧ ∃ n141 : Int, w136.cell? (a140.add (Int.toNat n126 * 1)) = some (.int .i64 n141) ∧
                      ∃ a142 : Addr, data.a = some a142 ∧ ((0 : Int) ≤ n126 ∧ n126 < ((data.len : Nat) : Int)) ∧
                      (∃ u : Value, w136.cell? (a142.add (Int.toNat n126 * 1)) = some u) ∧ w136.frozen? (a142.add (Int.toNat n126 * 1)) = false ∧
                      Nx (w136.setCell (a142.add (Int.toNat n126 * 1)) (.int .i64 n139)) fun w143 =>
                      ∃ a144 : Addr, data.a = some a144 ∧ ((0 : Int) ≤ a ∧ a < ((data.len : Nat) : Int)) ∧
                      (∃ u : Value, w143.cell? (a144.add (Int.toNat a * 1)) = some u) ∧ w143.frozen? (a144.add (Int.toNat a * 1)) = false ∧
                      Nx (w143.setCell (a144.add (Int.toNat a * 1)) (.int .i64 n141)) fun w145 =>
                      Q (.tuple #[.int .i64 n126, .bool false]) w145)
                    ∧ (
                      (decide ((n62 : Int) > n126)) = false → Nx (w133.drew) fun w146 => ∃ W147 : Nat →
                      Prop, ∃ a148 : Addr, data.a = some a148 ∧ ((0 : Int) ≤ n126 ∧ n126 < ((data.len : Nat) : Int)) ∧
                      ¬ W147 (a148.add (Int.toNat n126 * 1)).block ∧ ∃ n149 : Int, w146.cell? (a148.add (Int.toNat n126 * 1)) = some (.int .i64 n149) ∧
                      ∃ a150 : Addr, data.a = some a150 ∧ ((0 : Int) ≤ n62 ∧ n62 < ((data.len : Nat) : Int)) ∧
                      ¬ W147 (a150.add (Int.toNat n62 * 1)).block ∧ ∃ n151 : Int, w146.cell? (a150.add (Int.toNat n62 * 1)) = some (.int .i64 n151) ∧
                      ∃ a152 : Addr, data.a = some a152 ∧ ((0 : Int) ≤ n62 ∧ n62 < ((data.len : Nat) : Int)) ∧
                      (∃ u : Value, w146.cell? (a152.add (Int.toNat n62 * 1)) = some u) ∧ w146.frozen? (a152.add (Int.toNat n62 * 1)) = false ∧
                      Nx (w146.setCell (a152.add (Int.toNat n62 * 1)) (.int .i64 n149)) fun w153 =>
                      ∃ a154 : Addr, data.a = some a154 ∧ ((0 : Int) ≤ n126 ∧ n126 < ((data.len : Nat) : Int)) ∧
                      (∃ u : Value, w153.cell? (a154.add (Int.toNat n126 * 1)) = some u) ∧ w153.frozen? (a154.add (Int.toNat n126 * 1)) = false ∧
                      Nx (w153.setCell (a154.add (Int.toNat n126 * 1)) (.int .i64 n151)) fun w155 =>
                      I55 (IntKind.wrap .i64 (n62 + 1)) (IntKind.wrap .i64 (n126 - 1)) w155 ∧ μ56 (IntKind.wrap .i64 (n62 + 1)) (IntKind.wrap .i64 (n126 - 1)) w155 < μ56 n57 n58 w59)
                    )
                  )
                ∧ (
                  (decide ((n62 : Int) ≤ n126)) = false → (
                    false = true → I124 (IntKind.wrap .i64 (n126 - 1)) w128 ∧ μ125 (IntKind.wrap .i64 (n126 - 1)) w128 < μ125 n126 w127)
                  ∧ (
                    false = false → (
                      (decide ((n62 : Int) > n126)) = true → Nx (w128.drew) fun w156 => ∃ W157 : Nat →
                      Prop, ∃ a158 : Addr, data.a = some a158 ∧ ((0 : Int) ≤ a ∧ a < ((data.len : Nat) : Int)) ∧
                      ¬ W157 (a158.add (Int.toNat a * 1)).block ∧ ∃ n159 : Int, w156.cell? (a158.add (Int.toNat a * 1)) = some (.int .i64 n159) ∧
                      ∃ a160 : Addr, data.a = some a160 ∧ ((0 : Int) ≤ n126 ∧ n126 < ((data.len : Nat) : Int)) ∧
                      ¬ W157 (a160.add (Int.toNat n126 * 1)).block ∧ ∃ n161 : Int, w156.cell? (a160.add (Int.toNat n126 * 1)) = some (.int .i64 n161) ∧
                      ∃ a162 : Addr, data.a = some a162 ∧ ((0 : Int) ≤ n126 ∧ n126 < ((data.len : Nat) : Int)) ∧
                      (∃ u : Value, w156.cell? (a162.add (Int.toNat n126 * 1)) = some u) ∧ w156.frozen? (a162.add (Int.toNat n126 * 1)) = false ∧
                      Nx (w156.setCell (a162.add (Int.toNat n126 * 1)) (.int .i64 n159)) fun w163 =>
                      ∃ a164 : Addr, data.a = some a164 ∧ ((0 : Int) ≤ a ∧ a < ((data.len : Nat) : Int)) ∧
                      (∃ u : Value, w163.cell? (a164.add (Int.toNat a * 1)) = some u) ∧ w163.frozen? (a164.add (Int.toNat a * 1)) = false ∧
                      Nx (w163.setCell (a164.add (Int.toNat a * 1)) (.int .i64 n161)) fun w165 =>
                      Q (.tuple #[.int .i64 n126, .bool false]) w165)
                    ∧ (
                      (decide ((n62 : Int) > n126)) = false → Nx (w128.drew) fun w166 => ∃ W167 : Nat →
                      Prop, ∃ a168 : Addr, data.a = some a168 ∧ ((0 : Int) ≤ n126 ∧ n126 < ((data.len : Nat) : Int)) ∧
                      ¬ W167 (a168.add (Int.toNat n126 * 1)).block ∧ ∃ n169 : Int, w166.cell? (a168.add (Int.toNat n126 * 1)) = some (.int .i64 n169) ∧
                      ∃ a170 : Addr, data.a = some a170 ∧ ((0 : Int) ≤ n62 ∧ n62 < ((data.len : Nat) : Int)) ∧
                      ¬ W167 (a170.add (Int.toNat n62 * 1)).block ∧ ∃ n171 : Int, w166.cell? (a170.add (Int.toNat n62 * 1)) = some (.int .i64 n171) ∧
                      ∃ a172 : Addr, data.a = some a172 ∧ ((0 : Int) ≤ n62 ∧ n62 < ((data.len : Nat) : Int)) ∧
                      (∃ u : Value, w166.cell? (a172.add (Int.toNat n62 * 1)) = some u) ∧ w166.frozen? (a172.add (Int.toNat n62 * 1)) = false ∧
                      Nx (w166.setCell (a172.add (Int.toNat n62 * 1)) (.int .i64 n169)) fun w173 =>
                      ∃ a174 : Addr, data.a = some a174 ∧ ((0 : Int) ≤ n126 ∧ n126 < ((data.len : Nat) : Int)) ∧
                      (∃ u : Value, w173.cell? (a174.add (Int.toNat n126 * 1)) = some u) ∧ w173.frozen? (a174.add (Int.toNat n126 * 1)) = false ∧
                      Nx (w173.setCell (a174.add (Int.toNat n126 * 1)) (.int .i64 n171)) fun w175 =>
                      I55 (IntKind.wrap .i64 (n62 + 1)) (IntKind.wrap .i64 (n126 - 1)) w175 ∧ μ56 (IntKind.wrap .i64 (n62 + 1)) (IntKind.wrap .i64 (n126 - 1)) w175 < μ56 n57 n58 w59)
                    )
                  )
                )
              )
            )
          )
        )
      ∧ (
        (decide ((n13 : Int) ≤ n25)) = false → (
          false = true → I23 (IntKind.wrap .i64 (n25 - 1)) w27 ∧ μ24 (IntKind.wrap .i64 (n25 - 1)) w27 < μ24 n25 w26)
        ∧ (
          false = false → (
            (decide ((n13 : Int) > n25)) = true → Nx (w27.drew) fun w176 => ∃ W177 : Nat →
            Prop, ∃ a178 : Addr, data.a = some a178 ∧ ((0 : Int) ≤ a ∧ a < ((data.len : Nat) : Int)) ∧
            ¬ W177 (a178.add (Int.toNat a * 1)).block ∧ ∃ n179 : Int, w176.cell? (a178.add (Int.toNat a * 1)) = some (.int .i64 n179) ∧
            ∃ a180 : Addr, data.a = some a180 ∧ ((0 : Int) ≤ n25 ∧ n25 < ((data.len : Nat) : Int)) ∧
            ¬ W177 (a180.add (Int.toNat n25 * 1)).block ∧ ∃ n181 : Int, w176.cell? (a180.add (Int.toNat n25 * 1)) = some (.int .i64 n181) ∧
            ∃ a182 : Addr, data.a = some a182 ∧ ((0 : Int) ≤ n25 ∧ n25 < ((data.len : Nat) : Int)) ∧
            (∃ u : Value, w176.cell? (a182.add (Int.toNat n25 * 1)) = some u) ∧ w176.frozen? (a182.add (Int.toNat n25 * 1)) = false ∧
            Nx (w176.setCell (a182.add (Int.toNat n25 * 1)) (.int .i64 n179)) fun w183 =>
            ∃ a184 : Addr, data.a = some a184 ∧ ((0 : Int) ≤ a ∧ a < ((data.len : Nat) : Int)) ∧
            (∃ u : Value, w183.cell? (a184.add (Int.toNat a * 1)) = some u) ∧ w183.frozen? (a184.add (Int.toNat a * 1)) = false ∧
            Nx (w183.setCell (a184.add (Int.toNat a * 1)) (.int .i64 n181)) fun w185 =>
            Q (.tuple #[.int .i64 n25, .bool true]) w185)
          ∧ (
            (decide ((n13 : Int) > n25)) = false → Nx (w27.drew) fun w186 => ∃ W187 : Nat →
            Prop, ∃ a188 : Addr, data.a = some a188 ∧ ((0 : Int) ≤ n25 ∧ n25 < ((data.len : Nat) : Int)) ∧
            ¬ W187 (a188.add (Int.toNat n25 * 1)).block ∧ ∃ n189 : Int, w186.cell? (a188.add (Int.toNat n25 * 1)) = some (.int .i64 n189) ∧
            ∃ a190 : Addr, data.a = some a190 ∧ ((0 : Int) ≤ n13 ∧ n13 < ((data.len : Nat) : Int)) ∧
            ¬ W187 (a190.add (Int.toNat n13 * 1)).block ∧ ∃ n191 : Int, w186.cell? (a190.add (Int.toNat n13 * 1)) = some (.int .i64 n191) ∧
            ∃ a192 : Addr, data.a = some a192 ∧ ((0 : Int) ≤ n13 ∧ n13 < ((data.len : Nat) : Int)) ∧
            (∃ u : Value, w186.cell? (a192.add (Int.toNat n13 * 1)) = some u) ∧ w186.frozen? (a192.add (Int.toNat n13 * 1)) = false ∧
            Nx (w186.setCell (a192.add (Int.toNat n13 * 1)) (.int .i64 n189)) fun w193 =>
            ∃ a194 : Addr, data.a = some a194 ∧ ((0 : Int) ≤ n25 ∧ n25 < ((data.len : Nat) : Int)) ∧
            (∃ u : Value, w193.cell? (a194.add (Int.toNat n25 * 1)) = some u) ∧ w193.frozen? (a194.add (Int.toNat n25 * 1)) = false ∧
            Nx (w193.setCell (a194.add (Int.toNat n25 * 1)) (.int .i64 n191)) fun w195 =>
            ∃ (I196 : Int → Int → World → Prop) (μ197 : Int → Int → World → Nat), I196 (IntKind.wrap .i64 (n13 + 1)) (IntKind.wrap .i64 (n25 - 1)) w195 ∧
            ∀ (n198 : Int) (n199 : Int) (w200 : World), I196 n198 n199 w200 → ∃ (I201 : Int → World → Prop) (μ202 : Int → World → Nat), I201 n198 w200 ∧
            ∀ (n203 : Int) (w204 : World), I201 n203 w204 → Nx (w204.drew) fun w205 =>
            (
              (decide ((n203 : Int) ≤ n199)) = true → ∃ a206 : Addr, data.a = some a206 ∧
              ((0 : Int) ≤ n203 ∧ n203 < ((data.len : Nat) : Int)) ∧ ¬ False ∧ ∃ n207 : Int, w205.cell? (a206.add (Int.toNat n203 * 1)) = some (.int .i64 n207) ∧
              ∃ a208 : Addr, data.a = some a208 ∧ ((0 : Int) ≤ a ∧ a < ((data.len : Nat) : Int)) ∧
              ¬ False ∧ ∃ n209 : Int, w205.cell? (a208.add (Int.toNat a * 1)) = some (.int .i64 n209) ∧
              Calls Try.prog F.cmp_Less_int #[.int .i64 n207, .int .i64 n209] w205 fun e211 w210 =>
              ∃ b212 : Bool, e211 = .returned (.bool b212) ∧ (
                b212 = true → I201 (IntKind.wrap .i64 (n203 + 1)) w210 ∧ μ202 (IntKind.wrap .i64 (n203 + 1)) w210 < μ202 n203 w204)
              ∧ (
                b212 = false → ∃ (I213 : Int → World → Prop) (μ214 : Int → World → Nat), I213 n199 w210 ∧
                ∀ (n215 : Int) (w216 : World), I213 n215 w216 → Nx (w216.drew) fun w217 =>
                (
                  (decide ((n203 : Int) ≤ n215)) = true → ∃ a218 : Addr, data.a = some a218 ∧
                  ((0 : Int) ≤ n215 ∧ n215 < ((data.len : Nat) : Int)) ∧ ¬ False ∧ ∃ n219 : Int, w217.cell? (a218.add (Int.toNat n215 * 1)) = some (.int .i64 n219) ∧
                  ∃ a220 : Addr, data.a = some a220 ∧ ((0 : Int) ≤ a ∧ a < ((data.len : Nat) : Int)) ∧
                  ¬ False ∧ ∃ n221 : Int, w217.cell? (a220.add (Int.toNat a * 1)) = some (.int .i64 n221) ∧
                  Calls Try.prog F.cmp_Less_int #[.int .i64 n219, .int .i64 n221] w217 fun e223 w222 =>
                  ∃ b224 : Bool, e223 = .returned (.bool b224) ∧ (
                    (!b224) = true → I213 (IntKind.wrap .i64 (n215 - 1)) w222 ∧ μ214 (IntKind.wrap .i64 (n215 - 1)) w222 < μ214 n215 w216)
                  ∧ (
                    (!b224) = false → (
                      (decide ((n203 : Int) > n215)) = true → Nx (w222.drew) fun w225 => ∃ W226 : Nat →
                      Prop, ∃ a227 : Addr, data.a = some a227 ∧ ((0 : Int) ≤ a ∧ a < ((data.len : Nat) : Int)) ∧
                      ¬ W226 (a227.add (Int.toNat a * 1)).block ∧ ∃ n228 : Int, w225.cell? (a227.add (Int.toNat a * 1)) = some (.int .i64 n228) ∧
                      ∃ a229 : Addr, data.a = some a229 ∧ ((0 : Int) ≤ n215 ∧ n215 < ((data.len : Nat) : Int)) ∧
                      ¬ W226 (a229.add (Int.toNat n215 * 1)).block ∧ ∃ n230 : Int, w225.cell? (a229.add (Int.toNat n215 * 1)) = some (.int .i64 n230) ∧
                      ∃ a231 : Addr, data.a = some a231 ∧ ((0 : Int) ≤ n215 ∧ n215 < ((data.len : Nat) : Int)) ∧
                      (∃ u : Value, w225.cell? (a231.add (Int.toNat n215 * 1)) = some u) ∧ w225.frozen? (a231.add (Int.toNat n215 * 1)) = false ∧
                      Nx (w225.setCell (a231.add (Int.toNat n215 * 1)) (.int .i64 n228)) fun w232 =>
                      ∃ a233 : Addr, data.a = some a233 ∧ ((0 : Int) ≤ a ∧ a < ((data.len : Nat) : Int)) ∧
                      (∃ u : Value, w232.cell? (a233.add (Int.toNat a * 1)) = some u) ∧ w232.frozen? (a233.add (Int.toNat a * 1)) = false ∧
                      Nx (w232.setCell (a233.add (Int.toNat a * 1)) (.int .i64 n230)) fun w234 =>
                      Q (.tuple #[.int .i64 n215, .bool false]) w234)
                    ∧ (
                      (decide ((n203 : Int) > n215)) = false → Nx (w222.drew) fun w235 => ∃ W236 : Nat →
                      Prop, ∃ a237 : Addr, data.a = some a237 ∧ ((0 : Int) ≤ n215 ∧ n215 < ((data.len : Nat) : Int)) ∧
                      ¬ W236 (a237.add (Int.toNat n215 * 1)).block ∧ ∃ n238 : Int, w235.cell? (a237.add (Int.toNat n215 * 1)) = some (.int .i64 n238) ∧
                      ∃ a239 : Addr, data.a = some a239 ∧ ((0 : Int) ≤ n203 ∧ n203 < ((data.len : Nat) : Int)) ∧
                      ¬ W236 (a239.add (Int.toNat n203 * 1)).block ∧ ∃ n240 : Int, w235.cell? (a239.add (Int.toNat n203 * 1)) = some (.int .i64 n240) ∧
                      ∃ a241 : Addr, data.a = some a241 ∧ ((0 : Int) ≤ n203 ∧ n203 < ((data.len : Nat) : Int)) ∧
                      (∃ u : Value, w235.cell? (a241.add (Int.toNat n203 * 1)) = some u) ∧ w235.frozen? (a241.add (Int.toNat n203 * 1)) = false ∧
                      Nx (w235.setCell (a241.add (Int.toNat n203 * 1)) (.int .i64 n238)) fun w242 =>
                      ∃ a243 : Addr, data.a = some a243 ∧ ((0 : Int) ≤ n215 ∧ n215 < ((data.len : Nat) : Int)) ∧
                      (∃ u : Value, w242.cell? (a243.add (Int.toNat n215 * 1)) = some u) ∧ w242.frozen? (a243.add (Int.toNat n215 * 1)) = false ∧
                      Nx (w242.setCell (a243.add (Int.toNat n215 * 1)) (.int .i64 n240)) fun w244 =>
                      I196 (IntKind.wrap .i64 (n203 + 1)) (IntKind.wrap .i64 (n215 - 1)) w244 ∧
                      μ197 (IntKind.wrap .i64 (n203 + 1)) (IntKind.wrap .i64 (n215 - 1)) w244 < μ197 n198 n199 w200)
                    )
                  )
                ∧ (
                  (decide ((n203 : Int) ≤ n215)) = false → (
                    false = true → I213 (IntKind.wrap .i64 (n215 - 1)) w217 ∧ μ214 (IntKind.wrap .i64 (n215 - 1)) w217 < μ214 n215 w216)
                  ∧ (
                    false = false → (
                      (decide ((n203 : Int) > n215)) = true → Nx (w217.drew) fun w245 => ∃ W246 : Nat →
                      Prop, ∃ a247 : Addr, data.a = some a247 ∧ ((0 : Int) ≤ a ∧ a < ((data.len : Nat) : Int)) ∧
                      ¬ W246 (a247.add (Int.toNat a * 1)).block ∧ ∃ n248 : Int, w245.cell? (a247.add (Int.toNat a * 1)) = some (.int .i64 n248) ∧
                      ∃ a249 : Addr, data.a = some a249 ∧ ((0 : Int) ≤ n215 ∧ n215 < ((data.len : Nat) : Int)) ∧
                      ¬ W246 (a249.add (Int.toNat n215 * 1)).block ∧ ∃ n250 : Int, w245.cell? (a249.add (Int.toNat n215 * 1)) = some (.int .i64 n250) ∧
                      ∃ a251 : Addr, data.a = some a251 ∧ ((0 : Int) ≤ n215 ∧ n215 < ((data.len : Nat) : Int)) ∧
                      (∃ u : Value, w245.cell? (a251.add (Int.toNat n215 * 1)) = some u) ∧ w245.frozen? (a251.add (Int.toNat n215 * 1)) = false ∧
                      Nx (w245.setCell (a251.add (Int.toNat n215 * 1)) (.int .i64 n248)) fun w252 =>
                      ∃ a253 : Addr, data.a = some a253 ∧ ((0 : Int) ≤ a ∧ a < ((data.len : Nat) : Int)) ∧
                      (∃ u : Value, w252.cell? (a253.add (Int.toNat a * 1)) = some u) ∧ w252.frozen? (a253.add (Int.toNat a * 1)) = false ∧
                      Nx (w252.setCell (a253.add (Int.toNat a * 1)) (.int .i64 n250)) fun w254 =>
                      Q (.tuple #[.int .i64 n215, .bool false]) w254)
                    ∧ (
                      (decide ((n203 : Int) > n215)) = false → Nx (w217.drew) fun w255 => ∃ W256 : Nat →
                      Prop, ∃ a257 : Addr, data.a = some a257 ∧ ((0 : Int) ≤ n215 ∧ n215 < ((data.len : Nat) : Int)) ∧
                      ¬ W256 (a257.add (Int.toNat n215 * 1)).block ∧ ∃ n258 : Int, w255.cell? (a257.add (Int.toNat n215 * 1)) = some (.int .i64 n258) ∧
                      ∃ a259 : Addr, data.a = some a259 ∧ ((0 : Int) ≤ n203 ∧ n203 < ((data.len : Nat) : Int)) ∧
                      ¬ W256 (a259.add (Int.toNat n203 * 1)).block ∧ ∃ n260 : Int, w255.cell? (a259.add (Int.toNat n203 * 1)) = some (.int .i64 n260) ∧
                      ∃ a261 : Addr, data.a = some a261 ∧ ((0 : Int) ≤ n203 ∧ n203 < ((data.len : Nat) : Int)) ∧
                      (∃ u : Value, w255.cell? (a261.add (Int.toNat n203 * 1)) = some u) ∧ w255.frozen? (a261.add (Int.toNat n203 * 1)) = false ∧
                      Nx (w255.setCell (a261.add (Int.toNat n203 * 1)) (.int .i64 n258)) fun w262 =>
                      ∃ a263 : Addr, data.a = some a263 ∧ ((0 : Int) ≤ n215 ∧ n215 < ((data.len : Nat) : Int)) ∧
                      (∃ u : Value, w262.cell? (a263.add (Int.toNat n215 * 1)) = some u) ∧ w262.frozen? (a263.add (Int.toNat n215 * 1)) = false ∧
                      Nx (w262.setCell (a263.add (Int.toNat n215 * 1)) (.int .i64 n260)) fun w264 =>
                      I196 (IntKind.wrap .i64 (n203 + 1)) (IntKind.wrap .i64 (n215 - 1)) w264 ∧
                      μ197 (IntKind.wrap .i64 (n203 + 1)) (IntKind.wrap .i64 (n215 - 1)) w264 < μ197 n198 n199 w200)
                    )
                  )
                )
              )
            ∧ (
              (decide ((n203 : Int) ≤ n199)) = false → (
                false = true → I201 (IntKind.wrap .i64 (n203 + 1)) w205 ∧ μ202 (IntKind.wrap .i64 (n203 + 1)) w205 < μ202 n203 w204)
              ∧ (
                false = false → ∃ (I265 : Int → World → Prop) (μ266 : Int → World → Nat), I265 n199 w205 ∧
                ∀ (n267 : Int) (w268 : World), I265 n267 w268 → Nx (w268.drew) fun w269 =>
                (
                  (decide ((n203 : Int) ≤ n267)) = true → ∃ a270 : Addr, data.a = some a270 ∧
                  ((0 : Int) ≤ n267 ∧ n267 < ((data.len : Nat) : Int)) ∧ ¬ False ∧ ∃ n271 : Int, w269.cell? (a270.add (Int.toNat n267 * 1)) = some (.int .i64 n271) ∧
                  ∃ a272 : Addr, data.a = some a272 ∧ ((0 : Int) ≤ a ∧ a < ((data.len : Nat) : Int)) ∧
                  ¬ False ∧ ∃ n273 : Int, w269.cell? (a272.add (Int.toNat a * 1)) = some (.int .i64 n273) ∧
                  Calls Try.prog F.cmp_Less_int #[.int .i64 n271, .int .i64 n273] w269 fun e275 w274 =>
                  ∃ b276 : Bool, e275 = .returned (.bool b276) ∧ (
                    (!b276) = true → I265 (IntKind.wrap .i64 (n267 - 1)) w274 ∧ μ266 (IntKind.wrap .i64 (n267 - 1)) w274 < μ266 n267 w268)
                  ∧ (
                    (!b276) = false → (
                      (decide ((n203 : Int) > n267)) = true → Nx (w274.drew) fun w277 => ∃ W278 : Nat →
                      Prop, ∃ a279 : Addr, data.a = some a279 ∧ ((0 : Int) ≤ a ∧ a < ((data.len : Nat) : Int)) ∧
                      ¬ W278 (a279.add (Int.toNat a * 1)).block ∧ ∃ n280 : Int, w277.cell? (a279.add (Int.toNat a * 1)) = some (.int .i64 n280) ∧
                      ∃ a281 : Addr, data.a = some a281 ∧ ((0 : Int) ≤ n267 ∧ n267 < ((data.len : Nat) : Int)) ∧
                      ¬ W278 (a281.add (Int.toNat n267 * 1)).block ∧ ∃ n282 : Int, w277.cell? (a281.add (Int.toNat n267 * 1)) = some (.int .i64 n282) ∧
                      ∃ a283 : Addr, data.a = some a283 ∧ ((0 : Int) ≤ n267 ∧ n267 < ((data.len : Nat) : Int)) ∧
                      (∃ u : Value, w277.cell? (a283.add (Int.toNat n267 * 1)) = some u) ∧ w277.frozen? (a283.add (Int.toNat n267 * 1)) = false ∧
                      Nx (w277.setCell (a283.add (Int.toNat n267 * 1)) (.int .i64 n280)) fun w284 =>
                      ∃ a285 : Addr, data.a = some a285 ∧ ((0 : Int) ≤ a ∧ a < ((data.len : Nat) : Int)) ∧
                      (∃ u : Value, w284.cell? (a285.add (Int.toNat a * 1)) = some u) ∧ w284.frozen? (a285.add (Int.toNat a * 1)) = false ∧
                      Nx (w284.setCell (a285.add (Int.toNat a * 1)) (.int .i64 n282)) fun w286 =>
                      Q (.tuple #[.int .i64 n267, .bool false]) w286)
                    ∧ (
                      (decide ((n203 : Int) > n267)) = false → Nx (w274.drew) fun w287 => ∃ W288 : Nat →
                      Prop, ∃ a289 : Addr, data.a = some a289 ∧ ((0 : Int) ≤ n267 ∧ n267 < ((data.len : Nat) : Int)) ∧
                      ¬ W288 (a289.add (Int.toNat n267 * 1)).block ∧ ∃ n290 : Int, w287.cell? (a289.add (Int.toNat n267 * 1)) = some (.int .i64 n290) ∧
                      ∃ a291 : Addr, data.a = some a291 ∧ ((0 : Int) ≤ n203 ∧ n203 < ((data.len : Nat) : Int)) ∧
                      ¬ W288 (a291.add (Int.toNat n203 * 1)).block ∧ ∃ n292 : Int, w287.cell? (a291.add (Int.toNat n203 * 1)) = some (.int .i64 n292) ∧
                      ∃ a293 : Addr, data.a = some a293 ∧ ((0 : Int) ≤ n203 ∧ n203 < ((data.len : Nat) : Int)) ∧
                      (∃ u : Value, w287.cell? (a293.add (Int.toNat n203 * 1)) = some u) ∧ w287.frozen? (a293.add (Int.toNat n203 * 1)) = false ∧
                      Nx (w287.setCell (a293.add (Int.toNat n203 * 1)) (.int .i64 n290)) fun w294 =>
                      ∃ a295 : Addr, data.a = some a295 ∧ ((0 : Int) ≤ n267 ∧ n267 < ((data.len : Nat) : Int)) ∧
                      (∃ u : Value, w294.cell? (a295.add (Int.toNat n267 * 1)) = some u) ∧ w294.frozen? (a295.add (Int.toNat n267 * 1)) = false ∧
                      Nx (w294.setCell (a295.add (Int.toNat n267 * 1)) (.int .i64 n292)) fun w296 =>
                      I196 (IntKind.wrap .i64 (n203 + 1)) (IntKind.wrap .i64 (n267 - 1)) w296 ∧
                      μ197 (IntKind.wrap .i64 (n203 + 1)) (IntKind.wrap .i64 (n267 - 1)) w296 < μ197 n198 n199 w200)
                    )
                  )
                ∧ (
                  (decide ((n203 : Int) ≤ n267)) = false → (
                    false = true → I265 (IntKind.wrap .i64 (n267 - 1)) w269 ∧ μ266 (IntKind.wrap .i64 (n267 - 1)) w269 < μ266 n267 w268)
                  ∧ (
                    false = false → (
                      (decide ((n203 : Int) > n267)) = true → Nx (w269.drew) fun w297 => ∃ W298 : Nat →
                      Prop, ∃ a299 : Addr, data.a = some a299 ∧ ((0 : Int) ≤ a ∧ a < ((data.len : Nat) : Int)) ∧
                      ¬ W298 (a299.add (Int.toNat a * 1)).block ∧ ∃ n300 : Int, w297.cell? (a299.add (Int.toNat a * 1)) = some (.int .i64 n300) ∧
                      ∃ a301 : Addr, data.a = some a301 ∧ ((0 : Int) ≤ n267 ∧ n267 < ((data.len : Nat) : Int)) ∧
                      ¬ W298 (a301.add (Int.toNat n267 * 1)).block ∧ ∃ n302 : Int, w297.cell? (a301.add (Int.toNat n267 * 1)) = some (.int .i64 n302) ∧
                      ∃ a303 : Addr, data.a = some a303 ∧ ((0 : Int) ≤ n267 ∧ n267 < ((data.len : Nat) : Int)) ∧
                      (∃ u : Value, w297.cell? (a303.add (Int.toNat n267 * 1)) = some u) ∧ w297.frozen? (a303.add (Int.toNat n267 * 1)) = false ∧
                      Nx (w297.setCell (a303.add (Int.toNat n267 * 1)) (.int .i64 n300)) fun w304 =>
                      ∃ a305 : Addr, data.a = some a305 ∧ ((0 : Int) ≤ a ∧ a < ((data.len : Nat) : Int)) ∧
                      (∃ u : Value, w304.cell? (a305.add (Int.toNat a * 1)) = some u) ∧ w304.frozen? (a305.add (Int.toNat a * 1)) = false ∧
                      Nx (w304.setCell (a305.add (Int.toNat a * 1)) (.int .i64 n302)) fun w306 =>
                      Q (.tuple #[.int .i64 n267, .bool false]) w306)
                    ∧ (
                      (decide ((n203 : Int) > n267)) = false → Nx (w269.drew) fun w307 => ∃ W308 : Nat →
                      Prop, ∃ a309 : Addr, data.a = some a309 ∧ ((0 : Int) ≤ n267 ∧ n267 < ((data.len : Nat) : Int)) ∧
                      ¬ W308 (a309.add (Int.toNat n267 * 1)).block ∧ ∃ n310 : Int, w307.cell? (a309.add (Int.toNat n267 * 1)) = some (.int .i64 n310) ∧
                      ∃ a311 : Addr, data.a = some a311 ∧ ((0 : Int) ≤ n203 ∧ n203 < ((data.len : Nat) : Int)) ∧
                      ¬ W308 (a311.add (Int.toNat n203 * 1)).block ∧ ∃ n312 : Int, w307.cell? (a311.add (Int.toNat n203 * 1)) = some (.int .i64 n312) ∧
                      ∃ a313 : Addr, data.a = some a313 ∧ ((0 : Int) ≤ n203 ∧ n203 < ((data.len : Nat) : Int)) ∧
                      (∃ u : Value, w307.cell? (a313.add (Int.toNat n203 * 1)) = some u) ∧ w307.frozen? (a313.add (Int.toNat n203 * 1)) = false ∧
                      Nx (w307.setCell (a313.add (Int.toNat n203 * 1)) (.int .i64 n310)) fun w314 =>
                      ∃ a315 : Addr, data.a = some a315 ∧ ((0 : Int) ≤ n267 ∧ n267 < ((data.len : Nat) : Int)) ∧
                      (∃ u : Value, w314.cell? (a315.add (Int.toNat n267 * 1)) = some u) ∧ w314.frozen? (a315.add (Int.toNat n267 * 1)) = false ∧
                      Nx (w314.setCell (a315.add (Int.toNat n267 * 1)) (.int .i64 n312)) fun w316 =>
                      I196 (IntKind.wrap .i64 (n203 + 1)) (IntKind.wrap .i64 (n267 - 1)) w316 ∧
                      μ197 (IntKind.wrap .i64 (n203 + 1)) (IntKind.wrap .i64 (n267 - 1)) w316 < μ197 n198 n199 w200)
                    )
                  )
                )
              )
            )
          )
        )
      )
    )
  ∧ (
    (decide ((n13 : Int) ≤ (IntKind.wrap .i64 (b - 1)))) = false → (
      false = true → I11 (IntKind.wrap .i64 (n13 + 1)) w15 ∧ μ12 (IntKind.wrap .i64 (n13 + 1)) w15 < μ12 n13 w14)
    ∧ (
      false = false → ∃ (I317 : Int → World → Prop) (μ318 : Int → World → Nat), I317 (IntKind.wrap .i64 (b - 1)) w15 ∧
      ∀ (n319 : Int) (w320 : World), I317 n319 w320 → Nx (w320.drew) fun w321 =>
      (
        (decide ((n13 : Int) ≤ n319)) = true → ∃ a322 : Addr, data.a = some a322 ∧
        ((0 : Int) ≤ n319 ∧ n319 < ((data.len : Nat) : Int)) ∧ ¬ False ∧ ∃ n323 : Int, w321.cell? (a322.add (Int.toNat n319 * 1)) = some (.int .i64 n323) ∧
        ∃ a324 : Addr, data.a = some a324 ∧ ((0 : Int) ≤ a ∧ a < ((data.len : Nat) : Int)) ∧
        ¬ False ∧ ∃ n325 : Int, w321.cell? (a324.add (Int.toNat a * 1)) = some (.int .i64 n325) ∧
        Calls Try.prog F.cmp_Less_int #[.int .i64 n323, .int .i64 n325] w321 fun e327 w326 =>
        ∃ b328 : Bool, e327 = .returned (.bool b328) ∧ (
          (!b328) = true → I317 (IntKind.wrap .i64 (n319 - 1)) w326 ∧ μ318 (IntKind.wrap .i64 (n319 - 1)) w326 < μ318 n319 w320)
        ∧ (
          (!b328) = false → (
            (decide ((n13 : Int) > n319)) = true → Nx (w326.drew) fun w329 => ∃ W330 : Nat →
            Prop, ∃ a331 : Addr, data.a = some a331 ∧ ((0 : Int) ≤ a ∧ a < ((data.len : Nat) : Int)) ∧
            ¬ W330 (a331.add (Int.toNat a * 1)).block ∧ ∃ n332 : Int, w329.cell? (a331.add (Int.toNat a * 1)) = some (.int .i64 n332) ∧
            ∃ a333 : Addr, data.a = some a333 ∧ ((0 : Int) ≤ n319 ∧ n319 < ((data.len : Nat) : Int)) ∧
            ¬ W330 (a333.add (Int.toNat n319 * 1)).block ∧ ∃ n334 : Int, w329.cell? (a333.add (Int.toNat n319 * 1)) = some (.int .i64 n334) ∧
            ∃ a335 : Addr, data.a = some a335 ∧ ((0 : Int) ≤ n319 ∧ n319 < ((data.len : Nat) : Int)) ∧
            (∃ u : Value, w329.cell? (a335.add (Int.toNat n319 * 1)) = some u) ∧ w329.frozen? (a335.add (Int.toNat n319 * 1)) = false ∧
            Nx (w329.setCell (a335.add (Int.toNat n319 * 1)) (.int .i64 n332)) fun w336 =>
            ∃ a337 : Addr, data.a = some a337 ∧ ((0 : Int) ≤ a ∧ a < ((data.len : Nat) : Int)) ∧
            (∃ u : Value, w336.cell? (a337.add (Int.toNat a * 1)) = some u) ∧ w336.frozen? (a337.add (Int.toNat a * 1)) = false ∧
            Nx (w336.setCell (a337.add (Int.toNat a * 1)) (.int .i64 n334)) fun w338 =>
            Q (.tuple #[.int .i64 n319, .bool true]) w338)
          ∧ (
            (decide ((n13 : Int) > n319)) = false → Nx (w326.drew) fun w339 => ∃ W340 : Nat →
            Prop, ∃ a341 : Addr, data.a = some a341 ∧ ((0 : Int) ≤ n319 ∧ n319 < ((data.len : Nat) : Int)) ∧
            ¬ W340 (a341.add (Int.toNat n319 * 1)).block ∧ ∃ n342 : Int, w339.cell? (a341.add (Int.toNat n319 * 1)) = some (.int .i64 n342) ∧
            ∃ a343 : Addr, data.a = some a343 ∧ ((0 : Int) ≤ n13 ∧ n13 < ((data.len : Nat) : Int)) ∧
            ¬ W340 (a343.add (Int.toNat n13 * 1)).block ∧ ∃ n344 : Int, w339.cell? (a343.add (Int.toNat n13 * 1)) = some (.int .i64 n344) ∧
            ∃ a345 : Addr, data.a = some a345 ∧ ((0 : Int) ≤ n13 ∧ n13 < ((data.len : Nat) : Int)) ∧
            (∃ u : Value, w339.cell? (a345.add (Int.toNat n13 * 1)) = some u) ∧ w339.frozen? (a345.add (Int.toNat n13 * 1)) = false ∧
            Nx (w339.setCell (a345.add (Int.toNat n13 * 1)) (.int .i64 n342)) fun w346 =>
            ∃ a347 : Addr, data.a = some a347 ∧ ((0 : Int) ≤ n319 ∧ n319 < ((data.len : Nat) : Int)) ∧
            (∃ u : Value, w346.cell? (a347.add (Int.toNat n319 * 1)) = some u) ∧ w346.frozen? (a347.add (Int.toNat n319 * 1)) = false ∧
            Nx (w346.setCell (a347.add (Int.toNat n319 * 1)) (.int .i64 n344)) fun w348 =>
            ∃ (I349 : Int → Int → World → Prop) (μ350 : Int → Int → World → Nat), I349 (IntKind.wrap .i64 (n13 + 1)) (IntKind.wrap .i64 (n319 - 1)) w348 ∧
            ∀ (n351 : Int) (n352 : Int) (w353 : World), I349 n351 n352 w353 → ∃ (I354 : Int → World → Prop) (μ355 : Int → World → Nat), I354 n351 w353 ∧
            ∀ (n356 : Int) (w357 : World), I354 n356 w357 → Nx (w357.drew) fun w358 =>
            (
              (decide ((n356 : Int) ≤ n352)) = true → ∃ a359 : Addr, data.a = some a359 ∧
              ((0 : Int) ≤ n356 ∧ n356 < ((data.len : Nat) : Int)) ∧ ¬ False ∧ ∃ n360 : Int, w358.cell? (a359.add (Int.toNat n356 * 1)) = some (.int .i64 n360) ∧
              ∃ a361 : Addr, data.a = some a361 ∧ ((0 : Int) ≤ a ∧ a < ((data.len : Nat) : Int)) ∧
              ¬ False ∧ ∃ n362 : Int, w358.cell? (a361.add (Int.toNat a * 1)) = some (.int .i64 n362) ∧
              Calls Try.prog F.cmp_Less_int #[.int .i64 n360, .int .i64 n362] w358 fun e364 w363 =>
              ∃ b365 : Bool, e364 = .returned (.bool b365) ∧ (
                b365 = true → I354 (IntKind.wrap .i64 (n356 + 1)) w363 ∧ μ355 (IntKind.wrap .i64 (n356 + 1)) w363 < μ355 n356 w357)
              ∧ (
                b365 = false → ∃ (I366 : Int → World → Prop) (μ367 : Int → World → Nat), I366 n352 w363 ∧
                ∀ (n368 : Int) (w369 : World), I366 n368 w369 → Nx (w369.drew) fun w370 =>
                (
                  (decide ((n356 : Int) ≤ n368)) = true → ∃ a371 : Addr, data.a = some a371 ∧
                  ((0 : Int) ≤ n368 ∧ n368 < ((data.len : Nat) : Int)) ∧ ¬ False ∧ ∃ n372 : Int, w370.cell? (a371.add (Int.toNat n368 * 1)) = some (.int .i64 n372) ∧
                  ∃ a373 : Addr, data.a = some a373 ∧ ((0 : Int) ≤ a ∧ a < ((data.len : Nat) : Int)) ∧
                  ¬ False ∧ ∃ n374 : Int, w370.cell? (a373.add (Int.toNat a * 1)) = some (.int .i64 n374) ∧
                  Calls Try.prog F.cmp_Less_int #[.int .i64 n372, .int .i64 n374] w370 fun e376 w375 =>
                  ∃ b377 : Bool, e376 = .returned (.bool b377) ∧ (
                    (!b377) = true → I366 (IntKind.wrap .i64 (n368 - 1)) w375 ∧ μ367 (IntKind.wrap .i64 (n368 - 1)) w375 < μ367 n368 w369)
                  ∧ (
                    (!b377) = false → (
                      (decide ((n356 : Int) > n368)) = true → Nx (w375.drew) fun w378 => ∃ W379 : Nat →
                      Prop, ∃ a380 : Addr, data.a = some a380 ∧ ((0 : Int) ≤ a ∧ a < ((data.len : Nat) : Int)) ∧
                      ¬ W379 (a380.add (Int.toNat a * 1)).block ∧ ∃ n381 : Int, w378.cell? (a380.add (Int.toNat a * 1)) = some (.int .i64 n381) ∧
                      ∃ a382 : Addr, data.a = some a382 ∧ ((0 : Int) ≤ n368 ∧ n368 < ((data.len : Nat) : Int)) ∧
                      ¬ W379 (a382.add (Int.toNat n368 * 1)).block ∧ ∃ n383 : Int, w378.cell? (a382.add (Int.toNat n368 * 1)) = some (.int .i64 n383) ∧
                      ∃ a384 : Addr, data.a = some a384 ∧ ((0 : Int) ≤ n368 ∧ n368 < ((data.len : Nat) : Int)) ∧
                      (∃ u : Value, w378.cell? (a384.add (Int.toNat n368 * 1)) = some u) ∧ w378.frozen? (a384.add (Int.toNat n368 * 1)) = false ∧
                      Nx (w378.setCell (a384.add (Int.toNat n368 * 1)) (.int .i64 n381)) fun w385 =>
                      ∃ a386 : Addr, data.a = some a386 ∧ ((0 : Int) ≤ a ∧ a < ((data.len : Nat) : Int)) ∧
                      (∃ u : Value, w385.cell? (a386.add (Int.toNat a * 1)) = some u) ∧ w385.frozen? (a386.add (Int.toNat a * 1)) = false ∧
                      Nx (w385.setCell (a386.add (Int.toNat a * 1)) (.int .i64 n383)) fun w387 =>
                      Q (.tuple #[.int .i64 n368, .bool false]) w387)
                    ∧ (
                      (decide ((n356 : Int) > n368)) = false → Nx (w375.drew) fun w388 => ∃ W389 : Nat →
                      Prop, ∃ a390 : Addr, data.a = some a390 ∧ ((0 : Int) ≤ n368 ∧ n368 < ((data.len : Nat) : Int)) ∧
                      ¬ W389 (a390.add (Int.toNat n368 * 1)).block ∧ ∃ n391 : Int, w388.cell? (a390.add (Int.toNat n368 * 1)) = some (.int .i64 n391) ∧
                      ∃ a392 : Addr, data.a = some a392 ∧ ((0 : Int) ≤ n356 ∧ n356 < ((data.len : Nat) : Int)) ∧
                      ¬ W389 (a392.add (Int.toNat n356 * 1)).block ∧ ∃ n393 : Int, w388.cell? (a392.add (Int.toNat n356 * 1)) = some (.int .i64 n393) ∧
                      ∃ a394 : Addr, data.a = some a394 ∧ ((0 : Int) ≤ n356 ∧ n356 < ((data.len : Nat) : Int)) ∧
                      (∃ u : Value, w388.cell? (a394.add (Int.toNat n356 * 1)) = some u) ∧ w388.frozen? (a394.add (Int.toNat n356 * 1)) = false ∧
                      Nx (w388.setCell (a394.add (Int.toNat n356 * 1)) (.int .i64 n391)) fun w395 =>
                      ∃ a396 : Addr, data.a = some a396 ∧ ((0 : Int) ≤ n368 ∧ n368 < ((data.len : Nat) : Int)) ∧
                      (∃ u : Value, w395.cell? (a396.add (Int.toNat n368 * 1)) = some u) ∧ w395.frozen? (a396.add (Int.toNat n368 * 1)) = false ∧
                      Nx (w395.setCell (a396.add (Int.toNat n368 * 1)) (.int .i64 n393)) fun w397 =>
                      I349 (IntKind.wrap .i64 (n356 + 1)) (IntKind.wrap .i64 (n368 - 1)) w397 ∧
                      μ350 (IntKind.wrap .i64 (n356 + 1)) (IntKind.wrap .i64 (n368 - 1)) w397 < μ350 n351 n352 w353)
                    )
                  )
                ∧ (
                  (decide ((n356 : Int) ≤ n368)) = false → (
                    false = true → I366 (IntKind.wrap .i64 (n368 - 1)) w370 ∧ μ367 (IntKind.wrap .i64 (n368 - 1)) w370 < μ367 n368 w369)
                  ∧ (
                    false = false → (
                      (decide ((n356 : Int) > n368)) = true → Nx (w370.drew) fun w398 => ∃ W399 : Nat →
                      Prop, ∃ a400 : Addr, data.a = some a400 ∧ ((0 : Int) ≤ a ∧ a < ((data.len : Nat) : Int)) ∧
                      ¬ W399 (a400.add (Int.toNat a * 1)).block ∧ ∃ n401 : Int, w398.cell? (a400.add (Int.toNat a * 1)) = some (.int .i64 n401) ∧
                      ∃ a402 : Addr, data.a = some a402 ∧ ((0 : Int) ≤ n368 ∧ n368 < ((data.len : Nat) : Int)) ∧
                      ¬ W399 (a402.add (Int.toNat n368 * 1)).block ∧ ∃ n403 : Int, w398.cell? (a402.add (Int.toNat n368 * 1)) = some (.int .i64 n403) ∧
                      ∃ a404 : Addr, data.a = some a404 ∧ ((0 : Int) ≤ n368 ∧ n368 < ((data.len : Nat) : Int)) ∧
                      (∃ u : Value, w398.cell? (a404.add (Int.toNat n368 * 1)) = some u) ∧ w398.frozen? (a404.add (Int.toNat n368 * 1)) = false ∧
                      Nx (w398.setCell (a404.add (Int.toNat n368 * 1)) (.int .i64 n401)) fun w405 =>
                      ∃ a406 : Addr, data.a = some a406 ∧ ((0 : Int) ≤ a ∧ a < ((data.len : Nat) : Int)) ∧
                      (∃ u : Value, w405.cell? (a406.add (Int.toNat a * 1)) = some u) ∧ w405.frozen? (a406.add (Int.toNat a * 1)) = false ∧
                      Nx (w405.setCell (a406.add (Int.toNat a * 1)) (.int .i64 n403)) fun w407 =>
                      Q (.tuple #[.int .i64 n368, .bool false]) w407)
                    ∧ (
                      (decide ((n356 : Int) > n368)) = false → Nx (w370.drew) fun w408 => ∃ W409 : Nat →
                      Prop, ∃ a410 : Addr, data.a = some a410 ∧ ((0 : Int) ≤ n368 ∧ n368 < ((data.len : Nat) : Int)) ∧
                      ¬ W409 (a410.add (Int.toNat n368 * 1)).block ∧ ∃ n411 : Int, w408.cell? (a410.add (Int.toNat n368 * 1)) = some (.int .i64 n411) ∧
                      ∃ a412 : Addr, data.a = some a412 ∧ ((0 : Int) ≤ n356 ∧ n356 < ((data.len : Nat) : Int)) ∧
                      ¬ W409 (a412.add (Int.toNat n356 * 1)).block ∧ ∃ n413 : Int, w408.cell? (a412.add (Int.toNat n356 * 1)) = some (.int .i64 n413) ∧
                      ∃ a414 : Addr, data.a = some a414 ∧ ((0 : Int) ≤ n356 ∧ n356 < ((data.len : Nat) : Int)) ∧
                      (∃ u : Value, w408.cell? (a414.add (Int.toNat n356 * 1)) = some u) ∧ w408.frozen? (a414.add (Int.toNat n356 * 1)) = false ∧
                      Nx (w408.setCell (a414.add (Int.toNat n356 * 1)) (.int .i64 n411)) fun w415 =>
                      ∃ a416 : Addr, data.a = some a416 ∧ ((0 : Int) ≤ n368 ∧ n368 < ((data.len : Nat) : Int)) ∧
                      (∃ u : Value, w415.cell? (a416.add (Int.toNat n368 * 1)) = some u) ∧ w415.frozen? (a416.add (Int.toNat n368 * 1)) = false ∧
                      Nx (w415.setCell (a416.add (Int.toNat n368 * 1)) (.int .i64 n413)) fun w417 =>
                      I349 (IntKind.wrap .i64 (n356 + 1)) (IntKind.wrap .i64 (n368 - 1)) w417 ∧
                      μ350 (IntKind.wrap .i64 (n356 + 1)) (IntKind.wrap .i64 (n368 - 1)) w417 < μ350 n351 n352 w353)
                    )
                  )
                )
              )
            ∧ (
              (decide ((n356 : Int) ≤ n352)) = false → (
                false = true → I354 (IntKind.wrap .i64 (n356 + 1)) w358 ∧ μ355 (IntKind.wrap .i64 (n356 + 1)) w358 < μ355 n356 w357)
              ∧ (
                false = false → ∃ (I418 : Int → World → Prop) (μ419 : Int → World → Nat), I418 n352 w358 ∧
                ∀ (n420 : Int) (w421 : World), I418 n420 w421 → Nx (w421.drew) fun w422 =>
                (
                  (decide ((n356 : Int) ≤ n420)) = true → ∃ a423 : Addr, data.a = some a423 ∧
                  ((0 : Int) ≤ n420 ∧ n420 < ((data.len : Nat) : Int)) ∧ ¬ False ∧ ∃ n424 : Int, w422.cell? (a423.add (Int.toNat n420 * 1)) = some (.int .i64 n424) ∧
                  ∃ a425 : Addr, data.a = some a425 ∧ ((0 : Int) ≤ a ∧ a < ((data.len : Nat) : Int)) ∧
                  ¬ False ∧ ∃ n426 : Int, w422.cell? (a425.add (Int.toNat a * 1)) = some (.int .i64 n426) ∧
                  Calls Try.prog F.cmp_Less_int #[.int .i64 n424, .int .i64 n426] w422 fun e428 w427 =>
                  ∃ b429 : Bool, e428 = .returned (.bool b429) ∧ (
                    (!b429) = true → I418 (IntKind.wrap .i64 (n420 - 1)) w427 ∧ μ419 (IntKind.wrap .i64 (n420 - 1)) w427 < μ419 n420 w421)
                  ∧ (
                    (!b429) = false → (
                      (decide ((n356 : Int) > n420)) = true → Nx (w427.drew) fun w430 => ∃ W431 : Nat →
                      Prop, ∃ a432 : Addr, data.a = some a432 ∧ ((0 : Int) ≤ a ∧ a < ((data.len : Nat) : Int)) ∧
                      ¬ W431 (a432.add (Int.toNat a * 1)).block ∧ ∃ n433 : Int, w430.cell? (a432.add (Int.toNat a * 1)) = some (.int .i64 n433) ∧
                      ∃ a434 : Addr, data.a = some a434 ∧ ((0 : Int) ≤ n420 ∧ n420 < ((data.len : Nat) : Int)) ∧
                      ¬ W431 (a434.add (Int.toNat n420 * 1)).block ∧ ∃ n435 : Int, w430.cell? (a434.add (Int.toNat n420 * 1)) = some (.int .i64 n435) ∧
                      ∃ a436 : Addr, data.a = some a436 ∧ ((0 : Int) ≤ n420 ∧ n420 < ((data.len : Nat) : Int)) ∧
                      (∃ u : Value, w430.cell? (a436.add (Int.toNat n420 * 1)) = some u) ∧ w430.frozen? (a436.add (Int.toNat n420 * 1)) = false ∧
                      Nx (w430.setCell (a436.add (Int.toNat n420 * 1)) (.int .i64 n433)) fun w437 =>
                      ∃ a438 : Addr, data.a = some a438 ∧ ((0 : Int) ≤ a ∧ a < ((data.len : Nat) : Int)) ∧
                      (∃ u : Value, w437.cell? (a438.add (Int.toNat a * 1)) = some u) ∧ w437.frozen? (a438.add (Int.toNat a * 1)) = false ∧
                      Nx (w437.setCell (a438.add (Int.toNat a * 1)) (.int .i64 n435)) fun w439 =>
                      Q (.tuple #[.int .i64 n420, .bool false]) w439)
                    ∧ (
                      (decide ((n356 : Int) > n420)) = false → Nx (w427.drew) fun w440 => ∃ W441 : Nat →
                      Prop, ∃ a442 : Addr, data.a = some a442 ∧ ((0 : Int) ≤ n420 ∧ n420 < ((data.len : Nat) : Int)) ∧
                      ¬ W441 (a442.add (Int.toNat n420 * 1)).block ∧ ∃ n443 : Int, w440.cell? (a442.add (Int.toNat n420 * 1)) = some (.int .i64 n443) ∧
                      ∃ a444 : Addr, data.a = some a444 ∧ ((0 : Int) ≤ n356 ∧ n356 < ((data.len : Nat) : Int)) ∧
                      ¬ W441 (a444.add (Int.toNat n356 * 1)).block ∧ ∃ n445 : Int, w440.cell? (a444.add (Int.toNat n356 * 1)) = some (.int .i64 n445) ∧
                      ∃ a446 : Addr, data.a = some a446 ∧ ((0 : Int) ≤ n356 ∧ n356 < ((data.len : Nat) : Int)) ∧
                      (∃ u : Value, w440.cell? (a446.add (Int.toNat n356 * 1)) = some u) ∧ w440.frozen? (a446.add (Int.toNat n356 * 1)) = false ∧
                      Nx (w440.setCell (a446.add (Int.toNat n356 * 1)) (.int .i64 n443)) fun w447 =>
                      ∃ a448 : Addr, data.a = some a448 ∧ ((0 : Int) ≤ n420 ∧ n420 < ((data.len : Nat) : Int)) ∧
                      (∃ u : Value, w447.cell? (a448.add (Int.toNat n420 * 1)) = some u) ∧ w447.frozen? (a448.add (Int.toNat n420 * 1)) = false ∧
                      Nx (w447.setCell (a448.add (Int.toNat n420 * 1)) (.int .i64 n445)) fun w449 =>
                      I349 (IntKind.wrap .i64 (n356 + 1)) (IntKind.wrap .i64 (n420 - 1)) w449 ∧
                      μ350 (IntKind.wrap .i64 (n356 + 1)) (IntKind.wrap .i64 (n420 - 1)) w449 < μ350 n351 n352 w353)
                    )
                  )
                ∧ (
                  (decide ((n356 : Int) ≤ n420)) = false → (
                    false = true → I418 (IntKind.wrap .i64 (n420 - 1)) w422 ∧ μ419 (IntKind.wrap .i64 (n420 - 1)) w422 < μ419 n420 w421)
                  ∧ (
                    false = false → (
                      (decide ((n356 : Int) > n420)) = true → Nx (w422.drew) fun w450 => ∃ W451 : Nat →
                      Prop, ∃ a452 : Addr, data.a = some a452 ∧ ((0 : Int) ≤ a ∧ a < ((data.len : Nat) : Int)) ∧
                      ¬ W451 (a452.add (Int.toNat a * 1)).block ∧ ∃ n453 : Int, w450.cell? (a452.add (Int.toNat a * 1)) = some (.int .i64 n453) ∧
                      ∃ a454 : Addr, data.a = some a454 ∧ ((0 : Int) ≤ n420 ∧ n420 < ((data.len : Nat) : Int)) ∧
                      ¬ W451 (a454.add (Int.toNat n420 * 1)).block ∧ ∃ n455 : Int, w450.cell? (a454.add (Int.toNat n420 * 1)) = some (.int .i64 n455) ∧
                      ∃ a456 : Addr, data.a = some a456 ∧ ((0 : Int) ≤ n420 ∧ n420 < ((data.len : Nat) : Int)) ∧
                      (∃ u : Value, w450.cell? (a456.add (Int.toNat n420 * 1)) = some u) ∧ w450.frozen? (a456.add (Int.toNat n420 * 1)) = false ∧
                      Nx (w450.setCell (a456.add (Int.toNat n420 * 1)) (.int .i64 n453)) fun w457 =>
                      ∃ a458 : Addr, data.a = some a458 ∧ ((0 : Int) ≤ a ∧ a < ((data.len : Nat) : Int)) ∧
                      (∃ u : Value, w457.cell? (a458.add (Int.toNat a * 1)) = some u) ∧ w457.frozen? (a458.add (Int.toNat a * 1)) = false ∧
                      Nx (w457.setCell (a458.add (Int.toNat a * 1)) (.int .i64 n455)) fun w459 =>
                      Q (.tuple #[.int .i64 n420, .bool false]) w459)
                    ∧ (
                      (decide ((n356 : Int) > n420)) = false → Nx (w422.drew) fun w460 => ∃ W461 : Nat →
                      Prop, ∃ a462 : Addr, data.a = some a462 ∧ ((0 : Int) ≤ n420 ∧ n420 < ((data.len : Nat) : Int)) ∧
                      ¬ W461 (a462.add (Int.toNat n420 * 1)).block ∧ ∃ n463 : Int, w460.cell? (a462.add (Int.toNat n420 * 1)) = some (.int .i64 n463) ∧
                      ∃ a464 : Addr, data.a = some a464 ∧ ((0 : Int) ≤ n356 ∧ n356 < ((data.len : Nat) : Int)) ∧
                      ¬ W461 (a464.add (Int.toNat n356 * 1)).block ∧ ∃ n465 : Int, w460.cell? (a464.add (Int.toNat n356 * 1)) = some (.int .i64 n465) ∧
                      ∃ a466 : Addr, data.a = some a466 ∧ ((0 : Int) ≤ n356 ∧ n356 < ((data.len : Nat) : Int)) ∧
                      (∃ u : Value, w460.cell? (a466.add (Int.toNat n356 * 1)) = some u) ∧ w460.frozen? (a466.add (Int.toNat n356 * 1)) = false ∧
                      Nx (w460.setCell (a466.add (Int.toNat n356 * 1)) (.int .i64 n463)) fun w467 =>
                      ∃ a468 : Addr, data.a = some a468 ∧ ((0 : Int) ≤ n420 ∧ n420 < ((data.len : Nat) : Int)) ∧
                      (∃ u : Value, w467.cell? (a468.add (Int.toNat n420 * 1)) = some u) ∧ w467.frozen? (a468.add (Int.toNat n420 * 1)) = false ∧
                      Nx (w467.setCell (a468.add (Int.toNat n420 * 1)) (.int .i64 n465)) fun w469 =>
                      I349 (IntKind.wrap .i64 (n356 + 1)) (IntKind.wrap .i64 (n420 - 1)) w469 ∧
                      μ350 (IntKind.wrap .i64 (n356 + 1)) (IntKind.wrap .i64 (n420 - 1)) w469 < μ350 n351 n352 w353)
                    )
                  )
                )
              )
            )
          )
        )
      ∧ (
        (decide ((n13 : Int) ≤ n319)) = false → (
          false = true → I317 (IntKind.wrap .i64 (n319 - 1)) w321 ∧ μ318 (IntKind.wrap .i64 (n319 - 1)) w321 < μ318 n319 w320)
        ∧ (
          false = false → (
            (decide ((n13 : Int) > n319)) = true → Nx (w321.drew) fun w470 => ∃ W471 : Nat →
            Prop, ∃ a472 : Addr, data.a = some a472 ∧ ((0 : Int) ≤ a ∧ a < ((data.len : Nat) : Int)) ∧
            ¬ W471 (a472.add (Int.toNat a * 1)).block ∧ ∃ n473 : Int, w470.cell? (a472.add (Int.toNat a * 1)) = some (.int .i64 n473) ∧
            ∃ a474 : Addr, data.a = some a474 ∧ ((0 : Int) ≤ n319 ∧ n319 < ((data.len : Nat) : Int)) ∧
            ¬ W471 (a474.add (Int.toNat n319 * 1)).block ∧ ∃ n475 : Int, w470.cell? (a474.add (Int.toNat n319 * 1)) = some (.int .i64 n475) ∧
            ∃ a476 : Addr, data.a = some a476 ∧ ((0 : Int) ≤ n319 ∧ n319 < ((data.len : Nat) : Int)) ∧
            (∃ u : Value, w470.cell? (a476.add (Int.toNat n319 * 1)) = some u) ∧ w470.frozen? (a476.add (Int.toNat n319 * 1)) = false ∧
            Nx (w470.setCell (a476.add (Int.toNat n319 * 1)) (.int .i64 n473)) fun w477 =>
            ∃ a478 : Addr, data.a = some a478 ∧ ((0 : Int) ≤ a ∧ a < ((data.len : Nat) : Int)) ∧
            (∃ u : Value, w477.cell? (a478.add (Int.toNat a * 1)) = some u) ∧ w477.frozen? (a478.add (Int.toNat a * 1)) = false ∧
            Nx (w477.setCell (a478.add (Int.toNat a * 1)) (.int .i64 n475)) fun w479 =>
            Q (.tuple #[.int .i64 n319, .bool true]) w479)
          ∧ (
            (decide ((n13 : Int) > n319)) = false → Nx (w321.drew) fun w480 => ∃ W481 : Nat →
            Prop, ∃ a482 : Addr, data.a = some a482 ∧ ((0 : Int) ≤ n319 ∧ n319 < ((data.len : Nat) : Int)) ∧
            ¬ W481 (a482.add (Int.toNat n319 * 1)).block ∧ ∃ n483 : Int, w480.cell? (a482.add (Int.toNat n319 * 1)) = some (.int .i64 n483) ∧
            ∃ a484 : Addr, data.a = some a484 ∧ ((0 : Int) ≤ n13 ∧ n13 < ((data.len : Nat) : Int)) ∧
            ¬ W481 (a484.add (Int.toNat n13 * 1)).block ∧ ∃ n485 : Int, w480.cell? (a484.add (Int.toNat n13 * 1)) = some (.int .i64 n485) ∧
            ∃ a486 : Addr, data.a = some a486 ∧ ((0 : Int) ≤ n13 ∧ n13 < ((data.len : Nat) : Int)) ∧
            (∃ u : Value, w480.cell? (a486.add (Int.toNat n13 * 1)) = some u) ∧ w480.frozen? (a486.add (Int.toNat n13 * 1)) = false ∧
            Nx (w480.setCell (a486.add (Int.toNat n13 * 1)) (.int .i64 n483)) fun w487 =>
            ∃ a488 : Addr, data.a = some a488 ∧ ((0 : Int) ≤ n319 ∧ n319 < ((data.len : Nat) : Int)) ∧
            (∃ u : Value, w487.cell? (a488.add (Int.toNat n319 * 1)) = some u) ∧ w487.frozen? (a488.add (Int.toNat n319 * 1)) = false ∧
            Nx (w487.setCell (a488.add (Int.toNat n319 * 1)) (.int .i64 n485)) fun w489 =>
            ∃ (I490 : Int → Int → World → Prop) (μ491 : Int → Int → World → Nat), I490 (IntKind.wrap .i64 (n13 + 1)) (IntKind.wrap .i64 (n319 - 1)) w489 ∧
            ∀ (n492 : Int) (n493 : Int) (w494 : World), I490 n492 n493 w494 → ∃ (I495 : Int → World → Prop) (μ496 : Int → World → Nat), I495 n492 w494 ∧
            ∀ (n497 : Int) (w498 : World), I495 n497 w498 → Nx (w498.drew) fun w499 =>
            (
              (decide ((n497 : Int) ≤ n493)) = true → ∃ a500 : Addr, data.a = some a500 ∧
              ((0 : Int) ≤ n497 ∧ n497 < ((data.len : Nat) : Int)) ∧ ¬ False ∧ ∃ n501 : Int, w499.cell? (a500.add (Int.toNat n497 * 1)) = some (.int .i64 n501) ∧
              ∃ a502 : Addr, data.a = some a502 ∧ ((0 : Int) ≤ a ∧ a < ((data.len : Nat) : Int)) ∧
              ¬ False ∧ ∃ n503 : Int, w499.cell? (a502.add (Int.toNat a * 1)) = some (.int .i64 n503) ∧
              Calls Try.prog F.cmp_Less_int #[.int .i64 n501, .int .i64 n503] w499 fun e505 w504 =>
              ∃ b506 : Bool, e505 = .returned (.bool b506) ∧ (
                b506 = true → I495 (IntKind.wrap .i64 (n497 + 1)) w504 ∧ μ496 (IntKind.wrap .i64 (n497 + 1)) w504 < μ496 n497 w498)
              ∧ (
                b506 = false → ∃ (I507 : Int → World → Prop) (μ508 : Int → World → Nat), I507 n493 w504 ∧
                ∀ (n509 : Int) (w510 : World), I507 n509 w510 → Nx (w510.drew) fun w511 =>
                (
                  (decide ((n497 : Int) ≤ n509)) = true → ∃ a512 : Addr, data.a = some a512 ∧
                  ((0 : Int) ≤ n509 ∧ n509 < ((data.len : Nat) : Int)) ∧ ¬ False ∧ ∃ n513 : Int, w511.cell? (a512.add (Int.toNat n509 * 1)) = some (.int .i64 n513) ∧
                  ∃ a514 : Addr, data.a = some a514 ∧ ((0 : Int) ≤ a ∧ a < ((data.len : Nat) : Int)) ∧
                  ¬ False ∧ ∃ n515 : Int, w511.cell? (a514.add (Int.toNat a * 1)) = some (.int .i64 n515) ∧
                  Calls Try.prog F.cmp_Less_int #[.int .i64 n513, .int .i64 n515] w511 fun e517 w516 =>
                  ∃ b518 : Bool, e517 = .returned (.bool b518) ∧ (
                    (!b518) = true → I507 (IntKind.wrap .i64 (n509 - 1)) w516 ∧ μ508 (IntKind.wrap .i64 (n509 - 1)) w516 < μ508 n509 w510)
                  ∧ (
                    (!b518) = false → (
                      (decide ((n497 : Int) > n509)) = true → Nx (w516.drew) fun w519 => ∃ W520 : Nat →
                      Prop, ∃ a521 : Addr, data.a = some a521 ∧ ((0 : Int) ≤ a ∧ a < ((data.len : Nat) : Int)) ∧
                      ¬ W520 (a521.add (Int.toNat a * 1)).block ∧ ∃ n522 : Int, w519.cell? (a521.add (Int.toNat a * 1)) = some (.int .i64 n522) ∧
                      ∃ a523 : Addr, data.a = some a523 ∧ ((0 : Int) ≤ n509 ∧ n509 < ((data.len : Nat) : Int)) ∧
                      ¬ W520 (a523.add (Int.toNat n509 * 1)).block ∧ ∃ n524 : Int, w519.cell? (a523.add (Int.toNat n509 * 1)) = some (.int .i64 n524) ∧
                      ∃ a525 : Addr, data.a = some a525 ∧ ((0 : Int) ≤ n509 ∧ n509 < ((data.len : Nat) : Int)) ∧
                      (∃ u : Value, w519.cell? (a525.add (Int.toNat n509 * 1)) = some u) ∧ w519.frozen? (a525.add (Int.toNat n509 * 1)) = false ∧
                      Nx (w519.setCell (a525.add (Int.toNat n509 * 1)) (.int .i64 n522)) fun w526 =>
                      ∃ a527 : Addr, data.a = some a527 ∧ ((0 : Int) ≤ a ∧ a < ((data.len : Nat) : Int)) ∧
                      (∃ u : Value, w526.cell? (a527.add (Int.toNat a * 1)) = some u) ∧ w526.frozen? (a527.add (Int.toNat a * 1)) = false ∧
                      Nx (w526.setCell (a527.add (Int.toNat a * 1)) (.int .i64 n524)) fun w528 =>
                      Q (.tuple #[.int .i64 n509, .bool false]) w528)
                    ∧ (
                      (decide ((n497 : Int) > n509)) = false → Nx (w516.drew) fun w529 => ∃ W530 : Nat →
                      Prop, ∃ a531 : Addr, data.a = some a531 ∧ ((0 : Int) ≤ n509 ∧ n509 < ((data.len : Nat) : Int)) ∧
                      ¬ W530 (a531.add (Int.toNat n509 * 1)).block ∧ ∃ n532 : Int, w529.cell? (a531.add (Int.toNat n509 * 1)) = some (.int .i64 n532) ∧
                      ∃ a533 : Addr, data.a = some a533 ∧ ((0 : Int) ≤ n497 ∧ n497 < ((data.len : Nat) : Int)) ∧
                      ¬ W530 (a533.add (Int.toNat n497 * 1)).block ∧ ∃ n534 : Int, w529.cell? (a533.add (Int.toNat n497 * 1)) = some (.int .i64 n534) ∧
                      ∃ a535 : Addr, data.a = some a535 ∧ ((0 : Int) ≤ n497 ∧ n497 < ((data.len : Nat) : Int)) ∧
                      (∃ u : Value, w529.cell? (a535.add (Int.toNat n497 * 1)) = some u) ∧ w529.frozen? (a535.add (Int.toNat n497 * 1)) = false ∧
                      Nx (w529.setCell (a535.add (Int.toNat n497 * 1)) (.int .i64 n532)) fun w536 =>
                      ∃ a537 : Addr, data.a = some a537 ∧ ((0 : Int) ≤ n509 ∧ n509 < ((data.len : Nat) : Int)) ∧
                      (∃ u : Value, w536.cell? (a537.add (Int.toNat n509 * 1)) = some u) ∧ w536.frozen? (a537.add (Int.toNat n509 * 1)) = false ∧
                      Nx (w536.setCell (a537.add (Int.toNat n509 * 1)) (.int .i64 n534)) fun w538 =>
                      I490 (IntKind.wrap .i64 (n497 + 1)) (IntKind.wrap .i64 (n509 - 1)) w538 ∧
                      μ491 (IntKind.wrap .i64 (n497 + 1)) (IntKind.wrap .i64 (n509 - 1)) w538 < μ491 n492 n493 w494)
                    )
                  )
                ∧ (
                  (decide ((n497 : Int) ≤ n509)) = false → (
                    false = true → I507 (IntKind.wrap .i64 (n509 - 1)) w511 ∧ μ508 (IntKind.wrap .i64 (n509 - 1)) w511 < μ508 n509 w510)
                  ∧ (
                    false = false → (
                      (decide ((n497 : Int) > n509)) = true → Nx (w511.drew) fun w539 => ∃ W540 : Nat →
                      Prop, ∃ a541 : Addr, data.a = some a541 ∧ ((0 : Int) ≤ a ∧ a < ((data.len : Nat) : Int)) ∧
                      ¬ W540 (a541.add (Int.toNat a * 1)).block ∧ ∃ n542 : Int, w539.cell? (a541.add (Int.toNat a * 1)) = some (.int .i64 n542) ∧
                      ∃ a543 : Addr, data.a = some a543 ∧ ((0 : Int) ≤ n509 ∧ n509 < ((data.len : Nat) : Int)) ∧
                      ¬ W540 (a543.add (Int.toNat n509 * 1)).block ∧ ∃ n544 : Int, w539.cell? (a543.add (Int.toNat n509 * 1)) = some (.int .i64 n544) ∧
                      ∃ a545 : Addr, data.a = some a545 ∧ ((0 : Int) ≤ n509 ∧ n509 < ((data.len : Nat) : Int)) ∧
                      (∃ u : Value, w539.cell? (a545.add (Int.toNat n509 * 1)) = some u) ∧ w539.frozen? (a545.add (Int.toNat n509 * 1)) = false ∧
                      Nx (w539.setCell (a545.add (Int.toNat n509 * 1)) (.int .i64 n542)) fun w546 =>
                      ∃ a547 : Addr, data.a = some a547 ∧ ((0 : Int) ≤ a ∧ a < ((data.len : Nat) : Int)) ∧
                      (∃ u : Value, w546.cell? (a547.add (Int.toNat a * 1)) = some u) ∧ w546.frozen? (a547.add (Int.toNat a * 1)) = false ∧
                      Nx (w546.setCell (a547.add (Int.toNat a * 1)) (.int .i64 n544)) fun w548 =>
                      Q (.tuple #[.int .i64 n509, .bool false]) w548)
                    ∧ (
                      (decide ((n497 : Int) > n509)) = false → Nx (w511.drew) fun w549 => ∃ W550 : Nat →
                      Prop, ∃ a551 : Addr, data.a = some a551 ∧ ((0 : Int) ≤ n509 ∧ n509 < ((data.len : Nat) : Int)) ∧
                      ¬ W550 (a551.add (Int.toNat n509 * 1)).block ∧ ∃ n552 : Int, w549.cell? (a551.add (Int.toNat n509 * 1)) = some (.int .i64 n552) ∧
                      ∃ a553 : Addr, data.a = some a553 ∧ ((0 : Int) ≤ n497 ∧ n497 < ((data.len : Nat) : Int)) ∧
                      ¬ W550 (a553.add (Int.toNat n497 * 1)).block ∧ ∃ n554 : Int, w549.cell? (a553.add (Int.toNat n497 * 1)) = some (.int .i64 n554) ∧
                      ∃ a555 : Addr, data.a = some a555 ∧ ((0 : Int) ≤ n497 ∧ n497 < ((data.len : Nat) : Int)) ∧
                      (∃ u : Value, w549.cell? (a555.add (Int.toNat n497 * 1)) = some u) ∧ w549.frozen? (a555.add (Int.toNat n497 * 1)) = false ∧
                      Nx (w549.setCell (a555.add (Int.toNat n497 * 1)) (.int .i64 n552)) fun w556 =>
                      ∃ a557 : Addr, data.a = some a557 ∧ ((0 : Int) ≤ n509 ∧ n509 < ((data.len : Nat) : Int)) ∧
                      (∃ u : Value, w556.cell? (a557.add (Int.toNat n509 * 1)) = some u) ∧ w556.frozen? (a557.add (Int.toNat n509 * 1)) = false ∧
                      Nx (w556.setCell (a557.add (Int.toNat n509 * 1)) (.int .i64 n554)) fun w558 =>
                      I490 (IntKind.wrap .i64 (n497 + 1)) (IntKind.wrap .i64 (n509 - 1)) w558 ∧
                      μ491 (IntKind.wrap .i64 (n497 + 1)) (IntKind.wrap .i64 (n509 - 1)) w558 < μ491 n492 n493 w494)
                    )
                  )
                )
              )
            ∧ (
              (decide ((n497 : Int) ≤ n493)) = false → (
                false = true → I495 (IntKind.wrap .i64 (n497 + 1)) w499 ∧ μ496 (IntKind.wrap .i64 (n497 + 1)) w499 < μ496 n497 w498)
              ∧ (
                false = false → ∃ (I559 : Int → World → Prop) (μ560 : Int → World → Nat), I559 n493 w499 ∧
                ∀ (n561 : Int) (w562 : World), I559 n561 w562 → Nx (w562.drew) fun w563 =>
                (
                  (decide ((n497 : Int) ≤ n561)) = true → ∃ a564 : Addr, data.a = some a564 ∧
                  ((0 : Int) ≤ n561 ∧ n561 < ((data.len : Nat) : Int)) ∧ ¬ False ∧ ∃ n565 : Int, w563.cell? (a564.add (Int.toNat n561 * 1)) = some (.int .i64 n565) ∧
                  ∃ a566 : Addr, data.a = some a566 ∧ ((0 : Int) ≤ a ∧ a < ((data.len : Nat) : Int)) ∧
                  ¬ False ∧ ∃ n567 : Int, w563.cell? (a566.add (Int.toNat a * 1)) = some (.int .i64 n567) ∧
                  Calls Try.prog F.cmp_Less_int #[.int .i64 n565, .int .i64 n567] w563 fun e569 w568 =>
                  ∃ b570 : Bool, e569 = .returned (.bool b570) ∧ (
                    (!b570) = true → I559 (IntKind.wrap .i64 (n561 - 1)) w568 ∧ μ560 (IntKind.wrap .i64 (n561 - 1)) w568 < μ560 n561 w562)
                  ∧ (
                    (!b570) = false → (
                      (decide ((n497 : Int) > n561)) = true → Nx (w568.drew) fun w571 => ∃ W572 : Nat →
                      Prop, ∃ a573 : Addr, data.a = some a573 ∧ ((0 : Int) ≤ a ∧ a < ((data.len : Nat) : Int)) ∧
                      ¬ W572 (a573.add (Int.toNat a * 1)).block ∧ ∃ n574 : Int, w571.cell? (a573.add (Int.toNat a * 1)) = some (.int .i64 n574) ∧
                      ∃ a575 : Addr, data.a = some a575 ∧ ((0 : Int) ≤ n561 ∧ n561 < ((data.len : Nat) : Int)) ∧
                      ¬ W572 (a575.add (Int.toNat n561 * 1)).block ∧ ∃ n576 : Int, w571.cell? (a575.add (Int.toNat n561 * 1)) = some (.int .i64 n576) ∧
                      ∃ a577 : Addr, data.a = some a577 ∧ ((0 : Int) ≤ n561 ∧ n561 < ((data.len : Nat) : Int)) ∧
                      (∃ u : Value, w571.cell? (a577.add (Int.toNat n561 * 1)) = some u) ∧ w571.frozen? (a577.add (Int.toNat n561 * 1)) = false ∧
                      Nx (w571.setCell (a577.add (Int.toNat n561 * 1)) (.int .i64 n574)) fun w578 =>
                      ∃ a579 : Addr, data.a = some a579 ∧ ((0 : Int) ≤ a ∧ a < ((data.len : Nat) : Int)) ∧
                      (∃ u : Value, w578.cell? (a579.add (Int.toNat a * 1)) = some u) ∧ w578.frozen? (a579.add (Int.toNat a * 1)) = false ∧
                      Nx (w578.setCell (a579.add (Int.toNat a * 1)) (.int .i64 n576)) fun w580 =>
                      Q (.tuple #[.int .i64 n561, .bool false]) w580)
                    ∧ (
                      (decide ((n497 : Int) > n561)) = false → Nx (w568.drew) fun w581 => ∃ W582 : Nat →
                      Prop, ∃ a583 : Addr, data.a = some a583 ∧ ((0 : Int) ≤ n561 ∧ n561 < ((data.len : Nat) : Int)) ∧
                      ¬ W582 (a583.add (Int.toNat n561 * 1)).block ∧ ∃ n584 : Int, w581.cell? (a583.add (Int.toNat n561 * 1)) = some (.int .i64 n584) ∧
                      ∃ a585 : Addr, data.a = some a585 ∧ ((0 : Int) ≤ n497 ∧ n497 < ((data.len : Nat) : Int)) ∧
                      ¬ W582 (a585.add (Int.toNat n497 * 1)).block ∧ ∃ n586 : Int, w581.cell? (a585.add (Int.toNat n497 * 1)) = some (.int .i64 n586) ∧
                      ∃ a587 : Addr, data.a = some a587 ∧ ((0 : Int) ≤ n497 ∧ n497 < ((data.len : Nat) : Int)) ∧
                      (∃ u : Value, w581.cell? (a587.add (Int.toNat n497 * 1)) = some u) ∧ w581.frozen? (a587.add (Int.toNat n497 * 1)) = false ∧
                      Nx (w581.setCell (a587.add (Int.toNat n497 * 1)) (.int .i64 n584)) fun w588 =>
                      ∃ a589 : Addr, data.a = some a589 ∧ ((0 : Int) ≤ n561 ∧ n561 < ((data.len : Nat) : Int)) ∧
                      (∃ u : Value, w588.cell? (a589.add (Int.toNat n561 * 1)) = some u) ∧ w588.frozen? (a589.add (Int.toNat n561 * 1)) = false ∧
                      Nx (w588.setCell (a589.add (Int.toNat n561 * 1)) (.int .i64 n586)) fun w590 =>
                      I490 (IntKind.wrap .i64 (n497 + 1)) (IntKind.wrap .i64 (n561 - 1)) w590 ∧
                      μ491 (IntKind.wrap .i64 (n497 + 1)) (IntKind.wrap .i64 (n561 - 1)) w590 < μ491 n492 n493 w494)
                    )
                  )
                ∧ (
                  (decide ((n497 : Int) ≤ n561)) = false → (
                    false = true → I559 (IntKind.wrap .i64 (n561 - 1)) w563 ∧ μ560 (IntKind.wrap .i64 (n561 - 1)) w563 < μ560 n561 w562)
                  ∧ (
                    false = false → (
                      (decide ((n497 : Int) > n561)) = true → Nx (w563.drew) fun w591 => ∃ W592 : Nat →
                      Prop, ∃ a593 : Addr, data.a = some a593 ∧ ((0 : Int) ≤ a ∧ a < ((data.len : Nat) : Int)) ∧
                      ¬ W592 (a593.add (Int.toNat a * 1)).block ∧ ∃ n594 : Int, w591.cell? (a593.add (Int.toNat a * 1)) = some (.int .i64 n594) ∧
                      ∃ a595 : Addr, data.a = some a595 ∧ ((0 : Int) ≤ n561 ∧ n561 < ((data.len : Nat) : Int)) ∧
                      ¬ W592 (a595.add (Int.toNat n561 * 1)).block ∧ ∃ n596 : Int, w591.cell? (a595.add (Int.toNat n561 * 1)) = some (.int .i64 n596) ∧
                      ∃ a597 : Addr, data.a = some a597 ∧ ((0 : Int) ≤ n561 ∧ n561 < ((data.len : Nat) : Int)) ∧
                      (∃ u : Value, w591.cell? (a597.add (Int.toNat n561 * 1)) = some u) ∧ w591.frozen? (a597.add (Int.toNat n561 * 1)) = false ∧
                      Nx (w591.setCell (a597.add (Int.toNat n561 * 1)) (.int .i64 n594)) fun w598 =>
                      ∃ a599 : Addr, data.a = some a599 ∧ ((0 : Int) ≤ a ∧ a < ((data.len : Nat) : Int)) ∧
                      (∃ u : Value, w598.cell? (a599.add (Int.toNat a * 1)) = some u) ∧ w598.frozen? (a599.add (Int.toNat a * 1)) = false ∧
                      Nx (w598.setCell (a599.add (Int.toNat a * 1)) (.int .i64 n596)) fun w600 =>
                      Q (.tuple #[.int .i64 n561, .bool false]) w600)
                    ∧ (
                      (decide ((n497 : Int) > n561)) = false → Nx (w563.drew) fun w601 => ∃ W602 : Nat →
                      Prop, ∃ a603 : Addr, data.a = some a603 ∧ ((0 : Int) ≤ n561 ∧ n561 < ((data.len : Nat) : Int)) ∧
                      ¬ W602 (a603.add (Int.toNat n561 * 1)).block ∧ ∃ n604 : Int, w601.cell? (a603.add (Int.toNat n561 * 1)) = some (.int .i64 n604) ∧
                      ∃ a605 : Addr, data.a = some a605 ∧ ((0 : Int) ≤ n497 ∧ n497 < ((data.len : Nat) : Int)) ∧
                      ¬ W602 (a605.add (Int.toNat n497 * 1)).block ∧ ∃ n606 : Int, w601.cell? (a605.add (Int.toNat n497 * 1)) = some (.int .i64 n606) ∧
                      ∃ a607 : Addr, data.a = some a607 ∧ ((0 : Int) ≤ n497 ∧ n497 < ((data.len : Nat) : Int)) ∧
                      (∃ u : Value, w601.cell? (a607.add (Int.toNat n497 * 1)) = some u) ∧ w601.frozen? (a607.add (Int.toNat n497 * 1)) = false ∧
                      Nx (w601.setCell (a607.add (Int.toNat n497 * 1)) (.int .i64 n604)) fun w608 =>
                      ∃ a609 : Addr, data.a = some a609 ∧ ((0 : Int) ≤ n561 ∧ n561 < ((data.len : Nat) : Int)) ∧
                      (∃ u : Value, w608.cell? (a609.add (Int.toNat n561 * 1)) = some u) ∧ w608.frozen? (a609.add (Int.toNat n561 * 1)) = false ∧
                      Nx (w608.setCell (a609.add (Int.toNat n561 * 1)) (.int .i64 n606)) fun w610 =>
                      I490 (IntKind.wrap .i64 (n497 + 1)) (IntKind.wrap .i64 (n561 - 1)) w610 ∧
                      μ491 (IntKind.wrap .i64 (n497 + 1)) (IntKind.wrap .i64 (n561 - 1)) w610 < μ491 n492 n493 w494)
                    )
                  )
                )
              )
            )
          )
        )
      )
    )
def A.slices_partitionOrdered_int : AT := (.seq (.reg []) (.seq (.drw 14 true ⟨[0, 0, 0, 0, 0, 0, 48, 64, 0, 0, 768, 1024, 2291, 6387, 16383, 32767], [0, 0, 0, 0, 0, 0, 48, 64, 0, 0, 768, 1024, 3, 4224, 12, 18432]⟩ [4096, 8192, 16384, 32768, 65536, 131072, 262144, 524288, 1048576, 2097152, 4194304, 8388608, 16777216, 0, 33554432, 0] [1, 2, 1, 8, 1, 8, 196608, 262144, 1, 2, 3145728, 4194304, 12288, 17301504, 49152, 41943040] (.take 0 (.take 1 (.take 2 (.take 3 (.take 4 (.take 5 (.take 6 (.take 7 (.take 8 (.take 9 (.take 10 (.take 11 (.take 12 (.out 13 false (.tail [.run, .run])))))))))))))))) (.seq (.reg []) (.seq (.blk (.loop [(10, (.int .i64))] [0, 1, 11] (.seq (.seq (.drw 12 false ⟨[0, 0, 3, 4, 8, 8, 56, 72, 8, 8, 776, 1032, 2184, 4104], [0, 0, 3, 4, 8, 8, 56, 72, 8, 8, 776, 1032, 2184, 4104]⟩ [1073741824, 2147483648, 4294967296, 8589934592, 17179869184, 34359738368, 68719476736, 137438953472, 274877906944, 549755813888, 1099511627776, 2199023255552, 4398046511104, 8796093022208] [1024, 2048, 3221225472, 4294967296, 8589934593, 8589935616, 60129542144, 77309411328, 8589934593, 8589934594, 833223655424, 1108101562368, 2345052143616, 4406636445696] (.take 0 (.take 1 (.take 2 (.take 3 (.sp 33 (.take 4 (.take 5 (.take 6 (.take 7 (.take 8 (.take 9 (.take 10 (.take 11 (.tail [.run, .run]))))))))) (.take 4 (.take 5 (.take 6 (.take 7 (.take 8 (.take 9 (.take 10 (.take 11 (.tail [.run, .run]))))))))))))))) (.cond .leaf .leaf)) (.blk (.reg []))))) (.seq (.blk (.loop [(11, (.int .i64))] [0, 1, 10] (.seq (.seq (.drw 12 false ⟨[0, 0, 3, 4, 8, 8, 56, 72, 8, 8, 776, 1032, 2184, 4104, 8200], [0, 0, 3, 4, 8, 8, 56, 72, 8, 8, 776, 1032, 2184, 4104, 8200]⟩ [70368744177664, 140737488355328, 281474976710656, 562949953421312, 1125899906842624, 2251799813685248, 4503599627370496, 9007199254740992, 18014398509481984, 36028797018963968, 72057594037927936, 144115188075855872, 288230376151711744, 576460752303423488, 1152921504606846976] [1024, 2048, 211106232532992, 281474976710656, 562949953421313, 562949953423360, 3940649673949184, 5066549580791808, 562949953421313, 562949953421314, 54606145481867264, 72620543991349248, 153685337284018176, 288793326105133056, 577023702256844800] (.take 0 (.take 1 (.take 2 (.take 3 (.sp 49 (.take 4 (.take 5 (.take 6 (.take 7 (.take 8 (.take 9 (.take 10 (.take 11 (.tail [.run, .run, .run]))))))))) (.take 4 (.take 5 (.take 6 (.take 7 (.take 8 (.take 9 (.take 10 (.take 11 (.tail [.run, .run, .run]))))))))))))))) (.cond .leaf .leaf)) (.blk (.reg []))))) (.seq (.seq (.reg []) (.cond (.seq (.drw 14 true ⟨[0, 0, 0, 0, 0, 0, 48, 64, 0, 0, 768, 1024, 2291, 6387, 16383, 32767], [0, 0, 0, 0, 0, 0, 48, 64, 0, 0, 768, 1024, 3, 4224, 12, 18432]⟩ [73786976294838206464, 147573952589676412928, 295147905179352825856, 590295810358705651712, 1180591620717411303424, 2361183241434822606848, 4722366482869645213696, 9444732965739290427392, 18889465931478580854784, 37778931862957161709568, 75557863725914323419136, 151115727451828646838272, 302231454903657293676544, 0, 604462909807314587353088, 0] [1, 2048, 1, 2, 1, 2, 3541774862152233910272, 4722366482869645213696, 1, 2048, 56668397794435742564352, 75557863725914323419136, 221360928884514619392, 311676187869396584103936, 885443715538058477568, 755578637259143234191360] (.take 0 (.take 1 (.take 2 (.take 3 (.take 4 (.take 5 (.take 6 (.take 7 (.take 8 (.take 9 (.take 10 (.take 11 (.take 12 (.out 13 false (.tail [.run, .run])))))))))))))))) (.seq (.reg []) .leaf)) .leaf)) (.seq (.drw 14 true ⟨[0, 0, 0, 0, 0, 0, 48, 64, 0, 0, 768, 1024, 2291, 6387, 16383, 32767], [0, 0, 0, 0, 0, 0, 48, 64, 0, 0, 768, 1024, 3, 4224, 12, 18432]⟩ [2417851639229258349412352, 4835703278458516698824704, 9671406556917033397649408, 19342813113834066795298816, 38685626227668133590597632, 77371252455336267181195264, 154742504910672534362390528, 309485009821345068724781056, 618970019642690137449562112, 1237940039285380274899124224, 2475880078570760549798248448, 4951760157141521099596496896, 9903520314283042199192993792, 0, 19807040628566084398385987584, 0] [1, 1024, 1, 2048, 1, 2048, 116056878683004400771792896, 154742504910672534362390528, 1, 1024, 1856910058928070412348686336, 2475880078570760549798248448, 7253554917687775048237056, 10213005324104387267917774848, 29014219670751100192948224, 24758800785707605497982484480] (.take 0 (.take 1 (.take 2 (.take 3 (.take 4 (.take 5 (.take 6 (.take 7 (.take 8 (.take 9 (.take 10 (.take 11 (.take 12 (.out 13 false (.tail [.run, .run])))))))))))))))) (.seq (.reg []) (.seq (.reg []) (.seq (.blk (.loop [(10, (.int .i64)), (11, (.int .i64))] [0, 1] (.blk (.seq (.blk (.loop [(10, (.int .i64))] [0, 1, 11] (.seq (.seq (.drw 12 false ⟨[0, 0, 3, 4, 8, 8, 56, 72, 8, 8, 776, 1032, 2184, 4104], [0, 0, 3, 4, 8, 8, 56, 72, 8, 8, 776, 1032, 2184, 4104]⟩ [633825300114114700748351602688, 1267650600228229401496703205376, 2535301200456458802993406410752, 5070602400912917605986812821504, 10141204801825835211973625643008, 20282409603651670423947251286016, 40564819207303340847894502572032, 81129638414606681695789005144064, 162259276829213363391578010288128, 324518553658426726783156020576256, 649037107316853453566312041152512, 1298074214633706907132624082305024, 2596148429267413814265248164610048, 5192296858534827628530496329220096] [1024, 2048, 1901475900342344102245054808064, 2535301200456458802993406410752, 5070602400912917605986812821505, 5070602400912917605986812822528, 35494216806390423241907689750528, 45635421608216258453881315393536, 5070602400912917605986812821505, 5070602400912917605986812821506, 491848432888553007780720843685888, 654107709717766371172298853974016, 1384274455449226506434399900270592, 2601219031668326731871234977431552] (.take 0 (.take 1 (.take 2 (.take 3 (.sp 102 (.take 4 (.take 5 (.take 6 (.take 7 (.take 8 (.take 9 (.take 10 (.take 11 (.tail [.run, .run]))))))))) (.take 4 (.take 5 (.take 6 (.take 7 (.take 8 (.take 9 (.take 10 (.take 11 (.tail [.run, .run]))))))))))))))) (.cond .leaf .leaf)) (.blk (.reg []))))) (.seq (.blk (.loop [(11, (.int .i64))] [0, 1, 10] (.seq (.seq (.drw 12 false ⟨[0, 0, 3, 4, 8, 8, 56, 72, 8, 8, 776, 1032, 2184, 4104, 8200], [0, 0, 3, 4, 8, 8, 56, 72, 8, 8, 776, 1032, 2184, 4104, 8200]⟩ [41538374868278621028243970633760768, 83076749736557242056487941267521536, 166153499473114484112975882535043072, 332306998946228968225951765070086144, 664613997892457936451903530140172288, 1329227995784915872903807060280344576, 2658455991569831745807614120560689152, 5316911983139663491615228241121378304, 10633823966279326983230456482242756608, 21267647932558653966460912964485513216, 42535295865117307932921825928971026432, 85070591730234615865843651857942052864, 170141183460469231731687303715884105728, 340282366920938463463374607431768211456, 680564733841876926926749214863536422912] [1024, 2048, 124615124604835863084731911901282304, 166153499473114484112975882535043072, 332306998946228968225951765070086145, 332306998946228968225951765070088192, 2326148992623602777581662355490603008, 2990762990516060714033565885630775296, 332306998946228968225951765070086145, 332306998946228968225951765070086146, 32233778897784209917917321211798355968, 42867602864063536901147777694041112576, 90719810712320508325684831864133517312, 170473490459415460699913255480954191872, 340614673919884692431600559196838297600] (.take 0 (.take 1 (.take 2 (.take 3 (.sp 118 (.take 4 (.take 5 (.take 6 (.take 7 (.take 8 (.take 9 (.take 10 (.take 11 (.tail [.run, .run, .run]))))))))) (.take 4 (.take 5 (.take 6 (.take 7 (.take 8 (.take 9 (.take 10 (.take 11 (.tail [.run, .run, .run]))))))))))))))) (.cond .leaf .leaf)) (.blk (.reg []))))) (.seq (.seq (.reg []) (.cond .leaf .leaf)) (.seq (.drw 14 true ⟨[0, 0, 0, 0, 0, 0, 48, 64, 0, 0, 768, 1024, 2291, 6387, 16383, 32767], [0, 0, 0, 0, 0, 0, 48, 64, 0, 0, 768, 1024, 3, 4224, 12, 18432]⟩ [43556142965880123323311949751266331066368, 87112285931760246646623899502532662132736, 174224571863520493293247799005065324265472, 348449143727040986586495598010130648530944, 696898287454081973172991196020261297061888, 1393796574908163946345982392040522594123776, 2787593149816327892691964784081045188247552, 5575186299632655785383929568162090376495104, 11150372599265311570767859136324180752990208, 22300745198530623141535718272648361505980416, 44601490397061246283071436545296723011960832, 89202980794122492566142873090593446023921664, 178405961588244985132285746181186892047843328, 0, 356811923176489970264571492362373784095686656, 0] [1, 1024, 1, 2048, 1, 2048, 2090694862362245919518973588060783891185664, 2787593149816327892691964784081045188247552, 1, 1024, 33451117797795934712303577408972542258970624, 44601490397061246283071436545296723011960832, 130668428897640369969935849253798993199104, 183981147887877640917669675749348982424338432, 522673715590561479879743397015195972796416, 446014903970612462830714365452967230119608320] (.take 0 (.take 1 (.take 2 (.take 3 (.take 4 (.take 5 (.take 6 (.take 7 (.take 8 (.take 9 (.take 10 (.take 11 (.take 12 (.out 13 false (.tail [.run, .run])))))))))))))))) (.seq (.reg []) (.reg []))))))))) (.seq (.drw 14 true ⟨[0, 0, 0, 0, 0, 0, 48, 64, 0, 0, 768, 1024, 2291, 6387, 16383, 32767], [0, 0, 0, 0, 0, 0, 48, 64, 0, 0, 768, 1024, 3, 4224, 12, 18432]⟩ [11417981541647679048466287755595961091061972992, 22835963083295358096932575511191922182123945984, 45671926166590716193865151022383844364247891968, 91343852333181432387730302044767688728495783936, 182687704666362864775460604089535377456991567872, 365375409332725729550921208179070754913983135744, 730750818665451459101842416358141509827966271488, 1461501637330902918203684832716283019655932542976, 2923003274661805836407369665432566039311865085952, 5846006549323611672814739330865132078623730171904, 11692013098647223345629478661730264157247460343808, 23384026197294446691258957323460528314494920687616, 46768052394588893382517914646921056628989841375232, 0, 93536104789177786765035829293842113257979682750464, 0] [1, 2048, 1, 2, 1, 2, 548063113999088594326381812268606132370974703616, 730750818665451459101842416358141509827966271488, 1, 2048, 8769009823985417509222108996297698117935595257856, 11692013098647223345629478661730264157247460343808, 34253944624943037145398863266787883273185918976, 48229554031919796300721599479637339648645773918208, 137015778499772148581595453067151533092743675904, 116920130986472233456294786617302641572474603438080] (.take 0 (.take 1 (.take 2 (.take 3 (.take 4 (.take 5 (.take 6 (.take 7 (.take 8 (.take 9 (.take 10 (.take 11 (.take 12 (.out 13 false (.tail [.run, .run])))))))))))))))) (.seq (.reg []) .leaf))))))))))))
theorem W.slices_partitionOrdered_int_eq (data : Sl) (a : Int) (b : Int) (pivot : Int) (w : World) (Q : Value → World → Prop) : W.slices_partitionOrdered_int data a b pivot w Q = DF Try.prog tk A.slices_partitionOrdered_int Try.f85 [.slice data.a data.len data.cap, .int .i64 a, .int .i64 b, .int .i64 pivot] w Q := by kernel_rfl
theorem W.slices_partitionOrdered_int_ok (data : Sl) (a : Int) (b : Int) (pivot : Int) (w : World) (Q : Value → World → Prop) (h : W.slices_partitionOrdered_int data a b pivot w Q) : Calls Try.prog F.slices_partitionOrdered_int #[.slice data.a data.len data.cap, .int .i64 a, .int .i64 b, .int .i64 pivot] w fun e w1 => ∃ v, e = .returned v ∧ Q v w1 :=
  calls_of_DF hmix Try.func85 (by kernel_rfl) (Eq.mp (W.slices_partitionOrdered_int_eq data a b pivot w Q) h)

/-- math/bits.Len32 -/
def W.math_bits_Len32 (x : Int) (w : World) (Q : Value → World → Prop) : Prop :=
  Jn (
    fun k1 : Int → Int → World → Prop => (
      (decide ((x : Int) ≥ 65536)) = true → (0 : Int) ≤ 16 ∧ k1 (Int.fdiv x (2 ^ (min (Int.toNat 16) 32))) 16 w)
    ∧ ((decide ((x : Int) ≥ 65536)) = false → k1 x 0 w))
  (
    fun (n2 : Int) (n3 : Int) (w4 : World) => Jn (
      fun k5 : Int → Int → World → Prop => (
        (decide ((n2 : Int) ≥ 256)) = true → (0 : Int) ≤ 8 ∧ k5 (Int.fdiv n2 (2 ^ (min (Int.toNat 8) 32))) (IntKind.wrap .i64 (n3 + 8)) w4)
      ∧ ((decide ((n2 : Int) ≥ 256)) = false → k5 n2 n3 w4))
    (
      fun (n6 : Int) (n7 : Int) (w8 : World) => (0 : Int) ≤ (IntKind.wrap .u8 n6) ∧
      ∃ b9 : UInt8, byteAt (
        ByteArray.mk #[0, 1, 2, 2, 3, 3, 3, 3, 4, 4, 4, 4, 4, 4, 4, 4, 5, 5, 5, 5, 5, 5, 5, 5, 5, 5, 5, 5, 5, 5, 5, 5, 6, 6, 6, 6, 6, 6, 6, 6, 6, 6, 6, 6, 6, 6, 6, 6, 6, 6, 6, 6, 6, 6, 6, 6, 6, 6, 6, 6, 6, 6, 6, 6, 7, 7, 7, 7, 7, 7, 7, 7, 7, 7, 7, 7, 7, 7, 7, 7, 7, 7, 7, 7, 7, 7, 7, 7, 7, 7, 7, 7, 7, 7, 7, 7, 7, 7, 7, 7, 7, 7, 7, 7, 7, 7, 7, 7, 7, 7, 7, 7, 7, 7, 7, 7, 7, 7, 7, 7, 7, 7, 7, 7, 7, 7, 7, 7, 8, 8, 8, 8, 8, 8, 8, 8, 8, 8, 8, 8, 8, 8, 8, 8, 8, 8, 8, 8, 8, 8, 8, 8, 8, 8, 8, 8, 8, 8, 8, 8, 8, 8, 8, 8, 8, 8, 8, 8, 8, 8, 8, 8, 8, 8, 8, 8, 8, 8, 8, 8, 8, 8, 8, 8, 8, 8, 8, 8, 8, 8, 8, 8, 8, 8, 8, 8, 8, 8, 8, 8, 8, 8, 8, 8, 8, 8, 8, 8, 8, 8, 8, 8, 8, 8, 8, 8, 8, 8, 8, 8, 8, 8, 8, 8, 8, 8, 8, 8, 8, 8, 8, 8, 8, 8, 8, 8, 8, 8, 8, 8, 8, 8, 8, 8, 8, 8, 8, 8, 8, 8, 8, 8, 8, 8, 8, 8])
      (Int.toNat (IntKind.wrap .u8 n6)) = some b9 ∧ Q (.int .i64 (IntKind.wrap .i64 (n7 + (IntKind.wrap .i64 ((b9.toNat : Nat) : Int))))) w8)
    )
def A.math_bits_Len32 : AT := (.seq (.reg []) (.seq (.jk [(0, (.int .u32)), (2, (.int .i64))] [] (.seq (.reg []) (.cond (.seq (.reg []) (.reg [])) .leaf))) (.seq (.jk [(0, (.int .u32)), (2, (.int .i64))] [] (.seq (.reg []) (.cond (.seq (.reg []) (.reg [])) .leaf))) (.seq (.reg []) .leaf))))
theorem W.math_bits_Len32_eq (x : Int) (w : World) (Q : Value → World → Prop) : W.math_bits_Len32 x w Q = DF Try.prog tk A.math_bits_Len32 Try.f86 [.int .u32 x] w Q := by kernel_rfl
theorem W.math_bits_Len32_ok (x : Int) (w : World) (Q : Value → World → Prop) (h : W.math_bits_Len32 x w Q) : Calls Try.prog F.math_bits_Len32 #[.int .u32 x] w fun e w1 => ∃ v, e = .returned v ∧ Q v w1 :=
  calls_of_DF hmix Try.func86 (by kernel_rfl) (Eq.mp (W.math_bits_Len32_eq x w Q) h)

/-- math/bits.Len64 -/
def W.math_bits_Len64 (x : Int) (w : World) (Q : Value → World → Prop) : Prop :=
  Jn (
    fun k1 : Int → Int → World → Prop => (
      (decide ((x : Int) ≥ 4294967296)) = true → (0 : Int) ≤ 32 ∧ k1 (Int.fdiv x (2 ^ (min (Int.toNat 32) 64))) 32 w)
    ∧ ((decide ((x : Int) ≥ 4294967296)) = false → k1 x 0 w))
  (
    fun (n2 : Int) (n3 : Int) (w4 : World) => Jn (
      fun k5 : Int → Int → World → Prop => (
        (decide ((n2 : Int) ≥ 65536)) = true → (0 : Int) ≤ 16 ∧ k5 (Int.fdiv n2 (2 ^ (min (Int.toNat 16) 64))) (IntKind.wrap .i64 (n3 + 16)) w4)
      ∧ ((decide ((n2 : Int) ≥ 65536)) = false → k5 n2 n3 w4))
    (
      fun (n6 : Int) (n7 : Int) (w8 : World) => Jn (
        fun k9 : Int → Int → World → Prop => (
          (decide ((n6 : Int) ≥ 256)) = true → (0 : Int) ≤ 8 ∧ k9 (Int.fdiv n6 (2 ^ (min (Int.toNat 8) 64))) (IntKind.wrap .i64 (n7 + 8)) w8)
        ∧ ((decide ((n6 : Int) ≥ 256)) = false → k9 n6 n7 w8))
      (
        fun (n10 : Int) (n11 : Int) (w12 : World) => (0 : Int) ≤ (IntKind.wrap .u8 n10) ∧
        ∃ b13 : UInt8, byteAt (
          ByteArray.mk #[0, 1, 2, 2, 3, 3, 3, 3, 4, 4, 4, 4, 4, 4, 4, 4, 5, 5, 5, 5, 5, 5, 5, 5, 5, 5, 5, 5, 5, 5, 5, 5, 6, 6, 6, 6, 6, 6, 6, 6, 6, 6, 6, 6, 6, 6, 6, 6, 6, 6, 6, 6, 6, 6, 6, 6, 6, 6, 6, 6, 6, 6, 6, 6, 7, 7, 7, 7, 7, 7, 7, 7, 7, 7, 7, 7, 7, 7, 7, 7, 7, 7, 7, 7, 7, 7, 7, 7, 7, 7, 7, 7, 7, 7, 7, 7, 7, 7, 7, 7, 7, 7, 7, 7, 7, 7, 7, 7, 7, 7, 7, 7, 7, 7, 7, 7, 7, 7, 7, 7, 7, 7, 7, 7, 7, 7, 7, 7, 8, 8, 8, 8, 8, 8, 8, 8, 8, 8, 8, 8, 8, 8, 8, 8, 8, 8, 8, 8, 8, 8, 8, 8, 8, 8, 8, 8, 8, 8, 8, 8, 8, 8, 8, 8, 8, 8, 8, 8, 8, 8, 8, 8, 8, 8, 8, 8, 8, 8, 8, 8, 8, 8, 8, 8, 8, 8, 8, 8, 8, 8, 8, 8, 8, 8, 8, 8, 8, 8, 8, 8, 8, 8, 8, 8, 8, 8, 8, 8, 8, 8, 8, 8, 8, 8, 8, 8, 8, 8, 8, 8, 8, 8, 8, 8, 8, 8, 8, 8, 8, 8, 8, 8, 8, 8, 8, 8, 8, 8, 8, 8, 8, 8, 8, 8, 8, 8, 8, 8, 8, 8, 8, 8, 8, 8, 8, 8])
        (Int.toNat (IntKind.wrap .u8 n10)) = some b13 ∧ Q (.int .i64 (IntKind.wrap .i64 (n11 + (IntKind.wrap .i64 ((b13.toNat : Nat) : Int))))) w12)
      )
    )
def A.math_bits_Len64 : AT := (.seq (.reg []) (.seq (.jk [(0, (.int .u64)), (2, (.int .i64))] [] (.seq (.reg []) (.cond (.seq (.reg []) (.reg [])) .leaf))) (.seq (.jk [(0, (.int .u64)), (2, (.int .i64))] [] (.seq (.reg []) (.cond (.seq (.reg []) (.reg [])) .leaf))) (.seq (.jk [(0, (.int .u64)), (2, (.int .i64))] [] (.seq (.reg []) (.cond (.seq (.reg []) (.reg [])) .leaf))) (.seq (.reg []) .leaf)))))
theorem W.math_bits_Len64_eq (x : Int) (w : World) (Q : Value → World → Prop) : W.math_bits_Len64 x w Q = DF Try.prog tk A.math_bits_Len64 Try.f87 [.int .u64 x] w Q := by kernel_rfl
theorem W.math_bits_Len64_ok (x : Int) (w : World) (Q : Value → World → Prop) (h : W.math_bits_Len64 x w Q) : Calls Try.prog F.math_bits_Len64 #[.int .u64 x] w fun e w1 => ∃ v, e = .returned v ∧ Q v w1 :=
  calls_of_DF hmix Try.func87 (by kernel_rfl) (Eq.mp (W.math_bits_Len64_eq x w Q) h)

/-- slices.Reverse[[]stanchion/api.Backend,stanchion/api.Backend] -/
def W.slices_Reverse_Sl_api_Backend_api_Backend (s : Sl) (w : World) (Q : Value → World → Prop) : Prop :=
  ∃ (I1 : Int → Int → World → Prop) (μ2 : Int → Int → World → Nat), I1 0 (IntKind.wrap .i64 (((s.len : Nat) : Int) - 1)) w ∧
  ∀ (n3 : Int) (n4 : Int) (w5 : World), I1 n3 n4 w5 → (
    (decide ((n3 : Int) < n4)) = true → Nx (w5.drew) fun w6 => ∃ W7 : Nat → Prop, ∃ a8 : Addr, s.a = some a8 ∧
    ((0 : Int) ≤ n4 ∧ n4 < ((s.len : Nat) : Int)) ∧ ¬ W7 (a8.add (Int.toNat n4 * 21)).block ∧
    ∃ l9 : List Value, rdCells w6 (a8.add (Int.toNat n4 * 21)) 0 21 = some l9 ∧
    ∃ a10 : Addr, s.a = some a10 ∧ ((0 : Int) ≤ n3 ∧ n3 < ((s.len : Nat) : Int)) ∧
    ¬ W7 (a10.add (Int.toNat n3 * 21)).block ∧ ∃ l11 : List Value, rdCells w6 (a10.add (Int.toNat n3 * 21)) 0 21 = some l11 ∧
    ∃ a12 : Addr, s.a = some a12 ∧ ((0 : Int) ≤ n3 ∧ n3 < ((s.len : Nat) : Int)) ∧
    StoreOk w6 (a12.add (Int.toNat n3 * 21)) (Array.toList l9.toArray) ∧ Array.size l9.toArray = 21 ∧
    Nx (setCells w6 (a12.add (Int.toNat n3 * 21)) 0 (Array.toList l9.toArray)) fun w13 =>
    ∃ a14 : Addr, s.a = some a14 ∧ ((0 : Int) ≤ n4 ∧ n4 < ((s.len : Nat) : Int)) ∧
    StoreOk w13 (a14.add (Int.toNat n4 * 21)) (Array.toList l11.toArray) ∧ Array.size l11.toArray = 21 ∧
    Nx (setCells w13 (a14.add (Int.toNat n4 * 21)) 0 (Array.toList l11.toArray)) fun w15 =>
    I1 (IntKind.wrap .i64 (n3 + 1)) (IntKind.wrap .i64 (n4 - 1)) w15 ∧ μ2 (IntKind.wrap .i64 (n3 + 1)) (IntKind.wrap .i64 (n4 - 1)) w15 < μ2 n3 n4 w5)
  ∧ ((decide ((n3 : Int) < n4)) = false → Q (.tuple #[]) w5)
def A.slices_Reverse_Sl_api_Backend_api_Backend : AT := (.seq (.reg []) (.blk (.loop [(2, (.int .i64)), (3, (.int .i64))] [0] (.seq (.seq (.reg []) (.cond .leaf .leaf)) (.seq (.blk (.drw 14 true ⟨[0, 0, 0, 0, 0, 0, 48, 64, 0, 0, 768, 1024, 2291, 6387, 16383, 32767], [0, 0, 0, 0, 0, 0, 48, 64, 0, 0, 768, 1024, 3, 4224, 12, 18432]⟩ [16384, 32768, 65536, 131072, 262144, 524288, 1048576, 2097152, 4194304, 8388608, 16777216, 33554432, 67108864, 0, 134217728, 0] [1, 4, 1, 8, 1, 8, 786432, 1048576, 1, 4, 12582912, 16777216, 49152, 69206016, 196608, 167772160] (.take 0 (.take 1 (.take 2 (.take 3 (.take 4 (.take 5 (.take 6 (.take 7 (.take 8 (.take 9 (.take 10 (.take 11 (.take 12 (.out 13 false (.tail [.run, .run]))))))))))))))))) (.reg []))))))
theorem W.slices_Reverse_Sl_api_Backend_api_Backend_eq (s : Sl) (w : World) (Q : Value → World → Prop) : W.slices_Reverse_Sl_api_Backend_api_Backend s w Q = DF Try.prog tk A.slices_Reverse_Sl_api_Backend_api_Backend Try.f88 [.slice s.a s.len s.cap] w Q := by kernel_rfl
theorem W.slices_Reverse_Sl_api_Backend_api_Backend_ok (s : Sl) (w : World) (Q : Value → World → Prop) (h : W.slices_Reverse_Sl_api_Backend_api_Backend s w Q) : Calls Try.prog F.slices_Reverse_Sl_api_Backend_api_Backend #[.slice s.a s.len s.cap] w fun e w1 => ∃ v, e = .returned v ∧ Q v w1 :=
  calls_of_DF hmix Try.func88 (by kernel_rfl) (Eq.mp (W.slices_Reverse_Sl_api_Backend_api_Backend_eq s w Q) h)

/-- slices.siftDownOrdered[int] -/
def W.slices_siftDownOrdered_int (data : Sl) (lo : Int) (hi : Int) (first : Int) (w : World) (Q : Value → World → Prop) : Prop :=
  ∃ (I1 : Int → World → Prop) (μ2 : Int → World → Nat), I1 lo w ∧ ∀ (n3 : Int) (w4 : World), I1 n3 w4 →
  (
    (decide (((IntKind.wrap .i64 ((IntKind.wrap .i64 (2 * n3)) + 1)) : Int) ≥ hi)) = true →
    Q (.tuple #[]) w4)
  ∧ (
    (decide (((IntKind.wrap .i64 ((IntKind.wrap .i64 (2 * n3)) + 1)) : Int) ≥ hi)) = false →
    Jn (
      fun k5 : Int → World → Prop => Nx (w4.drew) fun w6 => (
        (
          decide (((IntKind.wrap .i64 ((IntKind.wrap .i64 ((IntKind.wrap .i64 (2 * n3)) + 1)) + 1)) : Int) < hi))
        = true → ∃ a7 : Addr, data.a = some a7 ∧ (
          (0 : Int) ≤ (IntKind.wrap .i64 (first + (IntKind.wrap .i64 ((IntKind.wrap .i64 (2 * n3)) + 1)))) ∧
          (IntKind.wrap .i64 (first + (IntKind.wrap .i64 ((IntKind.wrap .i64 (2 * n3)) + 1)))) < ((data.len : Nat) : Int))
        ∧ ¬ False ∧ ∃ n8 : Int, w6.cell? (
          a7.add (Int.toNat (IntKind.wrap .i64 (first + (IntKind.wrap .i64 ((IntKind.wrap .i64 (2 * n3)) + 1)))) * 1))
        = some (.int .i64 n8) ∧ ∃ a9 : Addr, data.a = some a9 ∧ (
          (0 : Int) ≤ (
            IntKind.wrap .i64 ((IntKind.wrap .i64 (first + (IntKind.wrap .i64 ((IntKind.wrap .i64 (2 * n3)) + 1)))) + 1))
          ∧ (
            IntKind.wrap .i64 ((IntKind.wrap .i64 (first + (IntKind.wrap .i64 ((IntKind.wrap .i64 (2 * n3)) + 1)))) + 1))
          < ((data.len : Nat) : Int))
        ∧ ¬ False ∧ ∃ n10 : Int, w6.cell? (
          a9.add (
            Int.toNat (
              IntKind.wrap .i64 ((IntKind.wrap .i64 (first + (IntKind.wrap .i64 ((IntKind.wrap .i64 (2 * n3)) + 1)))) + 1))
            * 1)
          )
        = some (.int .i64 n10) ∧ Calls Try.prog F.cmp_Less_int #[.int .i64 n8, .int .i64 n10] w6 fun e12 w11 =>
        ∃ b13 : Bool, e12 = .returned (.bool b13) ∧ (
          b13 = true → k5 (IntKind.wrap .i64 ((IntKind.wrap .i64 ((IntKind.wrap .i64 (2 * n3)) + 1)) + 1)) w11)
        ∧ (b13 = false → k5 (IntKind.wrap .i64 ((IntKind.wrap .i64 (2 * n3)) + 1)) w11))
      ∧ (
        (
          decide (((IntKind.wrap .i64 ((IntKind.wrap .i64 ((IntKind.wrap .i64 (2 * n3)) + 1)) + 1)) : Int) < hi))
        = false → (
          false = true → k5 (IntKind.wrap .i64 ((IntKind.wrap .i64 ((IntKind.wrap .i64 (2 * n3)) + 1)) + 1)) w6)
        ∧ (false = false → k5 (IntKind.wrap .i64 ((IntKind.wrap .i64 (2 * n3)) + 1)) w6))
      )
    (
      fun (n14 : Int) (w15 : World) => Nx (w15.drew) fun w16 => ∃ a17 : Addr, data.a = some a17 ∧
      (
        (0 : Int) ≤ (IntKind.wrap .i64 (first + n3)) ∧ (IntKind.wrap .i64 (first + n3)) < ((data.len : Nat) : Int))
      ∧ ¬ False ∧ ∃ n18 : Int, w16.cell? (a17.add (Int.toNat (IntKind.wrap .i64 (first + n3)) * 1)) = some (.int .i64 n18) ∧
      ∃ a19 : Addr, data.a = some a19 ∧ (
        (0 : Int) ≤ (IntKind.wrap .i64 (first + n14)) ∧ (IntKind.wrap .i64 (first + n14)) < ((data.len : Nat) : Int))
      ∧ ¬ False ∧ ∃ n20 : Int, w16.cell? (a19.add (Int.toNat (IntKind.wrap .i64 (first + n14)) * 1)) = some (.int .i64 n20) ∧
      Calls Try.prog F.cmp_Less_int #[.int .i64 n18, .int .i64 n20] w16 fun e22 w21 =>
      ∃ b23 : Bool, e22 = .returned (.bool b23) ∧ ((!b23) = true → Q (.tuple #[]) w21) ∧
      (
        (!b23) = false → Nx (w21.drew) fun w24 => ∃ W25 : Nat → Prop, ∃ a26 : Addr, data.a = some a26 ∧
        (
          (0 : Int) ≤ (IntKind.wrap .i64 (first + n14)) ∧ (IntKind.wrap .i64 (first + n14)) < ((data.len : Nat) : Int))
        ∧ ¬ W25 (a26.add (Int.toNat (IntKind.wrap .i64 (first + n14)) * 1)).block ∧
        ∃ n27 : Int, w24.cell? (a26.add (Int.toNat (IntKind.wrap .i64 (first + n14)) * 1)) = some (.int .i64 n27) ∧
        ∃ a28 : Addr, data.a = some a28 ∧ (
          (0 : Int) ≤ (IntKind.wrap .i64 (first + n3)) ∧ (IntKind.wrap .i64 (first + n3)) < ((data.len : Nat) : Int))
        ∧ ¬ W25 (a28.add (Int.toNat (IntKind.wrap .i64 (first + n3)) * 1)).block ∧
        ∃ n29 : Int, w24.cell? (a28.add (Int.toNat (IntKind.wrap .i64 (first + n3)) * 1)) = some (.int .i64 n29) ∧
        ∃ a30 : Addr, data.a = some a30 ∧ (
          (0 : Int) ≤ (IntKind.wrap .i64 (first + n3)) ∧ (IntKind.wrap .i64 (first + n3)) < ((data.len : Nat) : Int))
        ∧ (∃ u : Value, w24.cell? (a30.add (Int.toNat (IntKind.wrap .i64 (first + n3)) * 1)) = some u) ∧
        w24.frozen? (a30.add (Int.toNat (IntKind.wrap .i64 (first + n3)) * 1)) = false ∧
        Nx (w24.setCell (a30.add (Int.toNat (IntKind.wrap .i64 (first + n3)) * 1)) (.int .i64 n27)) fun w31 =>
        ∃ a32 : Addr, data.a = some a32 ∧ (
          (0 : Int) ≤ (IntKind.wrap .i64 (first + n14)) ∧ (IntKind.wrap .i64 (first + n14)) < ((data.len : Nat) : Int))
        ∧ (∃ u : Value, w31.cell? (a32.add (Int.toNat (IntKind.wrap .i64 (first + n14)) * 1)) = some u) ∧
        w31.frozen? (a32.add (Int.toNat (IntKind.wrap .i64 (first + n14)) * 1)) = false ∧
        Nx (w31.setCell (a32.add (Int.toNat (IntKind.wrap .i64 (first + n14)) * 1)) (.int .i64 n29)) fun w33 =>
        I1 n14 w33 ∧ μ2 n14 w33 < μ2 n3 w4)
      )
    )
def A.slices_siftDownOrdered_int : AT := (.seq (.reg []) (.blk (.loop [(8, (.int .i64))] [0, 2, 3] (.blk (.seq (.reg []) (.seq (.seq (.reg []) (.cond .leaf .leaf)) (.seq (.jk [(9, (.int .i64))] [0, 2, 3, 8] (.seq (.drw 18 false ⟨[0, 1, 0, 6, 8, 16, 16, 16, 208, 304, 528, 16, 16, 16, 12304, 16400, 34832, 65552, 132112, 262160], [0, 1, 0, 6, 8, 16, 16, 16, 208, 304, 528, 16, 16, 16, 12304, 16400, 34832, 65552, 132112, 262160]⟩ [131072, 262144, 524288, 1048576, 2097152, 4194304, 8388608, 16777216, 33554432, 67108864, 134217728, 268435456, 536870912, 1073741824, 2147483648, 4294967296, 8589934592, 17179869184, 34359738368, 68719476736] [512, 131072, 4, 786432, 1048576, 2097153, 2097160, 2097664, 27262976, 39845888, 69206016, 2097153, 2097160, 2097664, 1612709888, 2149580800, 4565499904, 8592031744, 17316184064, 34361835520] (.take 0 (.take 1 (.take 2 (.take 3 (.take 4 (.sp 21 (.take 5 (.take 6 (.take 7 (.take 8 (.take 9 (.take 10 (.take 11 (.take 12 (.take 13 (.take 14 (.take 15 (.take 16 (.take 17 (.tail [.run, .run])))))))))))))) (.take 5 (.take 6 (.take 7 (.take 8 (.take 9 (.take 10 (.take 11 (.take 12 (.take 13 (.take 14 (.take 15 (.take 16 (.take 17 (.tail [.run, .run]))))))))))))))))))))) (.cond (.reg []) .leaf))) (.seq (.seq (.drw 12 false ⟨[0, 0, 0, 6, 9, 16, 0, 0, 0, 384, 576, 1024, 2080, 4096], [0, 0, 0, 6, 9, 16, 0, 0, 0, 384, 576, 1024, 2080, 4096]⟩ [549755813888, 1099511627776, 2199023255552, 4398046511104, 8796093022208, 17592186044416, 35184372088832, 70368744177664, 140737488355328, 281474976710656, 562949953421312, 1125899906842624, 2251799813685248, 4503599627370496] [1, 8, 256, 3298534883328, 4947802324992, 8796093022208, 1, 8, 512, 211106232532992, 316659348799488, 562949953421312, 1143492092887040, 2251799813685248] (.take 0 (.take 1 (.take 2 (.take 3 (.take 4 (.take 5 (.take 6 (.take 7 (.take 8 (.take 9 (.take 10 (.take 11 (.tail [.run, .run])))))))))))))) (.cond .leaf .leaf)) (.seq (.drw 22 true ⟨[0, 0, 0, 6, 0, 0, 0, 96, 0, 0, 0, 1536, 2304, 4096, 0, 0, 0, 98304, 147456, 262144, 540431, 1589007, 4194303, 8388607], [0, 0, 0, 6, 0, 0, 0, 96, 0, 0, 0, 1536, 2304, 4096, 0, 0, 0, 98304, 147456, 262144, 9, 1056768, 144, 4718592]⟩ [9007199254740992, 18014398509481984, 36028797018963968, 72057594037927936, 144115188075855872, 288230376151711744, 576460752303423488, 1152921504606846976, 2305843009213693952, 4611686018427387904, 9223372036854775808, 18446744073709551616, 36893488147419103232, 73786976294838206464, 147573952589676412928, 295147905179352825856, 590295810358705651712, 1180591620717411303424, 2361183241434822606848, 4722366482869645213696, 9444732965739290427392, 0, 18889465931478580854784, 0] [1, 8, 256, 54043195528445952, 1, 8, 512, 864691128455135232, 1, 8, 512, 13835058055282163712, 20752587082923245568, 36893488147419103232, 1, 8, 256, 885443715538058477568, 1328165573307087716352, 2361183241434822606848, 81064793292668928, 9518519942034128633856, 1297036692682702848, 23611832414348226068480] (.take 0 (.take 1 (.take 2 (.take 3 (.take 4 (.take 5 (.take 6 (.take 7 (.take 8 (.take 9 (.take 10 (.take 11 (.take 12 (.take 13 (.take 14 (.take 15 (.take 16 (.take 17 (.take 18 (.take 19 (.take 20 (.out 21 false (.tail [.run, .run])))))))))))))))))))))))) (.reg []))))))))))
theorem W.slices_siftDownOrdered_int_eq (data : Sl) (lo : Int) (hi : Int) (first : Int) (w : World) (Q : Value → World → Prop) : W.slices_siftDownOrdered_int data lo hi first w Q = DF Try.prog tk A.slices_siftDownOrdered_int Try.f89 [.slice data.a data.len data.cap, .int .i64 lo, .int .i64 hi, .int .i64 first] w Q := by kernel_rfl
theorem W.slices_siftDownOrdered_int_ok (data : Sl) (lo : Int) (hi : Int) (first : Int) (w : World) (Q : Value → World → Prop) (h : W.slices_siftDownOrdered_int data lo hi first w Q) : Calls Try.prog F.slices_siftDownOrdered_int #[.slice data.a data.len data.cap, .int .i64 lo, .int .i64 hi, .int .i64 first] w fun e w1 => ∃ v, e = .returned v ∧ Q v w1 :=
  calls_of_DF hmix Try.func89 (by kernel_rfl) (Eq.mp (W.slices_siftDownOrdered_int_eq data lo hi first w Q) h)

/-- slices.nextPowerOfTwo -/
def W.slices_nextPowerOfTwo (length : Int) (w : World) (Q : Value → World → Prop) : Prop :=
  Calls Try.prog F.math_bits_Len #[.int .u64 (IntKind.wrap .u64 length)] w fun e2 w1 =>
  ∃ n3 : Int, e2 = .returned (.int .i64 n3) ∧ (0 : Int) ≤ n3 ∧ Q (.int .u64 (IntKind.wrap .u64 (1 * 2 ^ (min (Int.toNat n3) 64)))) w1
def A.slices_nextPowerOfTwo : AT := (.seq (.reg []) (.seq (.reg []) .leaf))
theorem W.slices_nextPowerOfTwo_eq (length : Int) (w : World) (Q : Value → World → Prop) : W.slices_nextPowerOfTwo length w Q = DF Try.prog tk A.slices_nextPowerOfTwo Try.f90 [.int .i64 length] w Q := by kernel_rfl
theorem W.slices_nextPowerOfTwo_ok (length : Int) (w : World) (Q : Value → World → Prop) (h : W.slices_nextPowerOfTwo length w Q) : Calls Try.prog F.slices_nextPowerOfTwo #[.int .i64 length] w fun e w1 => ∃ v, e = .returned v ∧ Q v w1 :=
  calls_of_DF hmix Try.func90 (by kernel_rfl) (Eq.mp (W.slices_nextPowerOfTwo_eq length w Q) h)

/-- (*slices.xorshift).Next -/
def W.slices_xorshift_Next (r : Option Addr) (w : World) (Q : Value → World → Prop) : Prop :=
  Nx (w.drew) fun w1 => ∃ a2 : Addr, r = some a2 ∧ ¬ False ∧ ∃ n3 : Int, w1.cell? a2 = some (.int .u64 n3) ∧
  ∃ a4 : Addr, r = some a4 ∧ ¬ False ∧ ∃ n5 : Int, w1.cell? a4 = some (.int .u64 n5) ∧
  (0 : Int) ≤ 13 ∧ ∃ a6 : Addr, r = some a6 ∧ (∃ u : Value, w1.cell? a6 = some u) ∧
  w1.frozen? a6 = false ∧ Nx (w1.setCell a6 (.int .u64 (bXor .u64 n3 (IntKind.wrap .u64 (n5 * 2 ^ (min (Int.toNat 13) 64)))))) fun w7 =>
  Nx (w7.drew) fun w8 => ∃ a9 : Addr, r = some a9 ∧ ¬ False ∧ ∃ n10 : Int, w8.cell? a9 = some (.int .u64 n10) ∧
  ∃ a11 : Addr, r = some a11 ∧ ¬ False ∧ ∃ n12 : Int, w8.cell? a11 = some (.int .u64 n12) ∧
  (0 : Int) ≤ 7 ∧ ∃ a13 : Addr, r = some a13 ∧ (∃ u : Value, w8.cell? a13 = some u) ∧
  w8.frozen? a13 = false ∧ Nx (w8.setCell a13 (.int .u64 (bXor .u64 n10 (Int.fdiv n12 (2 ^ (min (Int.toNat 7) 64)))))) fun w14 =>
  Nx (w14.drew) fun w15 => ∃ a16 : Addr, r = some a16 ∧ ¬ False ∧ ∃ n17 : Int, w15.cell? a16 = some (.int .u64 n17) ∧
  ∃ a18 : Addr, r = some a18 ∧ ¬ False ∧ ∃ n19 : Int, w15.cell? a18 = some (.int .u64 n19) ∧
  (0 : Int) ≤ 17 ∧ ∃ a20 : Addr, r = some a20 ∧ (∃ u : Value, w15.cell? a20 = some u) ∧
  w15.frozen? a20 = false ∧ Nx (w15.setCell a20 (.int .u64 (bXor .u64 n17 (IntKind.wrap .u64 (n19 * 2 ^ (min (Int.toNat 17) 64)))))) fun w21 =>
  ∃ a22 : Addr, r = some a22 ∧ ∃ n23 : Int, w21.cell? a22 = some (.int .u64 n23) ∧
  Q (.int .u64 n23) w21
def A.slices_xorshift_Next : AT := (.seq (.reg []) (.seq (.drw 7 false ⟨[0, 1, 2, 0, 8, 16, 32, 68, 255, 511], [0, 1, 2, 0, 8, 16, 32, 68, 1, 384]⟩ [8, 16, 32, 64, 128, 256, 512, 1024, 2048, 0] [1, 8, 16, 1, 64, 128, 256, 544, 8, 3072] (.take 0 (.take 1 (.take 2 (.take 3 (.take 4 (.take 5 (.take 6 (.tail [.run, .run, .run]))))))))) (.seq (.drw 7 false ⟨[0, 1, 2, 0, 8, 16, 32, 68, 255, 511], [0, 1, 2, 0, 8, 16, 32, 68, 1, 384]⟩ [4096, 8192, 16384, 32768, 65536, 131072, 262144, 524288, 1048576, 0] [1, 4096, 8192, 1, 32768, 65536, 131072, 278528, 4096, 1572864] (.take 0 (.take 1 (.take 2 (.take 3 (.take 4 (.take 5 (.take 6 (.tail [.run, .run, .run]))))))))) (.seq (.drw 7 false ⟨[0, 1, 2, 0, 8, 16, 32, 68, 255, 511], [0, 1, 2, 0, 8, 16, 32, 68, 1, 384]⟩ [2097152, 4194304, 8388608, 16777216, 33554432, 67108864, 134217728, 268435456, 536870912, 0] [1, 2097152, 4194304, 1, 16777216, 33554432, 67108864, 142606336, 2097152, 805306368] (.take 0 (.take 1 (.take 2 (.take 3 (.take 4 (.take 5 (.take 6 (.tail [.run, .run, .run]))))))))) (.seq (.reg []) .leaf)))))
theorem W.slices_xorshift_Next_eq (r : Option Addr) (w : World) (Q : Value → World → Prop) : W.slices_xorshift_Next r w Q = DF Try.prog tk A.slices_xorshift_Next Try.f91 [.pointer r] w Q := by kernel_rfl
theorem W.slices_xorshift_Next_ok (r : Option Addr) (w : World) (Q : Value → World → Prop) (h : W.slices_xorshift_Next r w Q) : Calls Try.prog F.slices_xorshift_Next #[.pointer r] w fun e w1 => ∃ v, e = .returned v ∧ Q v w1 :=
  calls_of_DF hmix Try.func91 (by kernel_rfl) (Eq.mp (W.slices_xorshift_Next_eq r w Q) h)

/-- slices.medianAdjacentOrdered[int] -/
def W.slices_medianAdjacentOrdered_int (data : Sl) (a : Int) (swaps : Option Addr) (w : World) (Q : Value → World → Prop) : Prop :=
  Calls Try.prog F.slices_medianOrdered_int #[.slice data.a data.len data.cap, .int .i64 (IntKind.wrap .i64 (a - 1)), .int .i64 a, .int .i64 (IntKind.wrap .i64 (a + 1)), .pointer swaps] w fun e2 w1 =>
  ∃ n3 : Int, e2 = .returned (.int .i64 n3) ∧ Q (.int .i64 n3) w1
def A.slices_medianAdjacentOrdered_int : AT := (.seq (.reg []) (.seq (.reg []) .leaf))
theorem W.slices_medianAdjacentOrdered_int_eq (data : Sl) (a : Int) (swaps : Option Addr) (w : World) (Q : Value → World → Prop) : W.slices_medianAdjacentOrdered_int data a swaps w Q = DF Try.prog tk A.slices_medianAdjacentOrdered_int Try.f92 [.slice data.a data.len data.cap, .int .i64 a, .pointer swaps] w Q := by kernel_rfl
theorem W.slices_medianAdjacentOrdered_int_ok (data : Sl) (a : Int) (swaps : Option Addr) (w : World) (Q : Value → World → Prop) (h : W.slices_medianAdjacentOrdered_int data a swaps w Q) : Calls Try.prog F.slices_medianAdjacentOrdered_int #[.slice data.a data.len data.cap, .int .i64 a, .pointer swaps] w fun e w1 => ∃ v, e = .returned v ∧ Q v w1 :=
  calls_of_DF hmix Try.func92 (by kernel_rfl) (Eq.mp (W.slices_medianAdjacentOrdered_int_eq data a swaps w Q) h)

/-- slices.medianOrdered[int] -/
def W.slices_medianOrdered_int (data : Sl) (a : Int) (b : Int) (c : Int) (swaps : Option Addr) (w : World) (Q : Value → World → Prop) : Prop :=
  Calls Try.prog F.slices_order2Ordered_int #[.slice data.a data.len data.cap, .int .i64 a, .int .i64 b, .pointer swaps] w fun e2 w1 =>
  ∃ n3 : Int, ∃ n4 : Int, e2 = .returned (.tuple #[.int .i64 n3, .int .i64 n4]) ∧
  Calls Try.prog F.slices_order2Ordered_int #[.slice data.a data.len data.cap, .int .i64 n4, .int .i64 c, .pointer swaps] w1 fun e6 w5 =>
  ∃ n7 : Int, ∃ n8 : Int, e6 = .returned (.tuple #[.int .i64 n7, .int .i64 n8]) ∧
  Calls Try.prog F.slices_order2Ordered_int #[.slice data.a data.len data.cap, .int .i64 n3, .int .i64 n7, .pointer swaps] w5 fun e10 w9 =>
  ∃ n11 : Int, ∃ n12 : Int, e10 = .returned (.tuple #[.int .i64 n11, .int .i64 n12]) ∧
  Q (.int .i64 n12) w9
def A.slices_medianOrdered_int : AT := (.seq (.reg []) (.seq (.reg []) (.seq (.reg []) (.seq (.reg []) (.seq (.reg []) .leaf)))))
theorem W.slices_medianOrdered_int_eq (data : Sl) (a : Int) (b : Int) (c : Int) (swaps : Option Addr) (w : World) (Q : Value → World → Prop) : W.slices_medianOrdered_int data a b c swaps w Q = DF Try.prog tk A.slices_medianOrdered_int Try.f93 [.slice data.a data.len data.cap, .int .i64 a, .int .i64 b, .int .i64 c, .pointer swaps] w Q := by kernel_rfl
theorem W.slices_medianOrdered_int_ok (data : Sl) (a : Int) (b : Int) (c : Int) (swaps : Option Addr) (w : World) (Q : Value → World → Prop) (h : W.slices_medianOrdered_int data a b c swaps w Q) : Calls Try.prog F.slices_medianOrdered_int #[.slice data.a data.len data.cap, .int .i64 a, .int .i64 b, .int .i64 c, .pointer swaps] w fun e w1 => ∃ v, e = .returned v ∧ Q v w1 :=
  calls_of_DF hmix Try.func93 (by kernel_rfl) (Eq.mp (W.slices_medianOrdered_int_eq data a b c swaps w Q) h)

/-- slices.order2Ordered[int] -/
def W.slices_order2Ordered_int (data : Sl) (a : Int) (b : Int) (swaps : Option Addr) (w : World) (Q : Value → World → Prop) : Prop :=
  Nx (w.drew) fun w1 => ∃ a2 : Addr, data.a = some a2 ∧ ((0 : Int) ≤ b ∧ b < ((data.len : Nat) : Int)) ∧
  ¬ False ∧ ∃ n3 : Int, w1.cell? (a2.add (Int.toNat b * 1)) = some (.int .i64 n3) ∧
  ∃ a4 : Addr, data.a = some a4 ∧ ((0 : Int) ≤ a ∧ a < ((data.len : Nat) : Int)) ∧
  ¬ False ∧ ∃ n5 : Int, w1.cell? (a4.add (Int.toNat a * 1)) = some (.int .i64 n5) ∧
  Calls Try.prog F.cmp_Less_int #[.int .i64 n3, .int .i64 n5] w1 fun e7 w6 =>
  ∃ b8 : Bool, e7 = .returned (.bool b8) ∧ (
    b8 = true → ∃ a9 : Addr, swaps = some a9 ∧ ∃ n10 : Int, w6.cell? a9 = some (.int .i64 n10) ∧
    ∃ a11 : Addr, swaps = some a11 ∧ (∃ u : Value, w6.cell? a11 = some u) ∧ w6.frozen? a11 = false ∧
    Nx (w6.setCell a11 (.int .i64 (IntKind.wrap .i64 (n10 + 1)))) fun w12 => Q (.tuple #[.int .i64 b, .int .i64 a]) w12)
  ∧ (b8 = false → Q (.tuple #[.int .i64 a, .int .i64 b]) w6)
def A.slices_order2Ordered_int : AT := (.seq (.reg []) (.seq (.seq (.drw 8 false ⟨[0, 0, 3, 4, 0, 0, 48, 64, 136], [0, 0, 3, 4, 0, 0, 48, 64, 136]⟩ [1024, 2048, 4096, 8192, 16384, 32768, 65536, 131072, 262144] [1, 4, 3072, 4096, 1, 2, 49152, 65536, 139264] (.take 0 (.take 1 (.take 2 (.take 3 (.take 4 (.take 5 (.take 6 (.take 7 (.tail [.run])))))))))) (.cond (.seq (.reg []) (.seq (.reg []) .leaf)) .leaf)) (.seq (.reg []) .leaf)))
theorem W.slices_order2Ordered_int_eq (data : Sl) (a : Int) (b : Int) (swaps : Option Addr) (w : World) (Q : Value → World → Prop) : W.slices_order2Ordered_int data a b swaps w Q = DF Try.prog tk A.slices_order2Ordered_int Try.f94 [.slice data.a data.len data.cap, .int .i64 a, .int .i64 b, .pointer swaps] w Q := by kernel_rfl
theorem W.slices_order2Ordered_int_ok (data : Sl) (a : Int) (b : Int) (swaps : Option Addr) (w : World) (Q : Value → World → Prop) (h : W.slices_order2Ordered_int data a b swaps w Q) : Calls Try.prog F.slices_order2Ordered_int #[.slice data.a data.len data.cap, .int .i64 a, .int .i64 b, .pointer swaps] w fun e w1 => ∃ v, e = .returned v ∧ Q v w1 :=
  calls_of_DF hmix Try.func94 (by kernel_rfl) (Eq.mp (W.slices_order2Ordered_int_eq data a b swaps w Q) h)

end Go.Proofs.Ytldeegpcldhjaaa
