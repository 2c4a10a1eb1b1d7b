/- Printed by gen.py: each function of the program as what must be shown of it. -/
import Derived.Test.YtcjpgabpihkcjaaDoorGb
namespace Go.Proofs.YtcjpgabpihkcjaaDoor
open Go Gx
set_option maxRecDepth 100000
/-- stanchion/stanchionlaw32.AclHits -/
def W.law32_AclHits (l : Sl) (f : Array Value) (w : World) (Q : Value → World → Prop) : Prop :=
  Nx (w.alloc (.cells f Ty.api_Flow)) fun w1 => Calls Tryd.prog F.law32_Few #[.slice l.a l.len l.cap] w1 fun e3 w2 =>
  ∃ s4 : Sl, e3 = .returned (.slice s4.a s4.len s4.cap) ∧ Nx (w2.drew) fun w5 =>
  ∃ W6 : Nat → Prop, ¬ W6 (⟨w.heap.size, 0, none⟩ : Addr).block ∧ ∃ l7 : List Value, rdCells w5 ⟨w.heap.size, 0, none⟩ 0 37 = some l7 ∧
  Calls Tryd.prog F.law32_Few #[.slice s4.a s4.len s4.cap] w5 fun e9 w8 => ∃ s10 : Sl, e9 = .returned (.slice s10.a s10.len s10.cap) ∧
  Chg W6 w5 w8 ∧ Calls Tryd.prog F.acl_First #[.slice s10.a s10.len s10.cap, .agg l7.toArray] w8 fun e12 w11 =>
  ∃ n13 : Int, ∃ b14 : Bool, e12 = .returned (.tuple #[.int .i64 n13, .bool b14]) ∧
  ∃ l15 : List Value, rdCells w11 ⟨w.heap.size, 0, none⟩ 0 37 = some l15 ∧ Calls Tryd.prog F.ref32_First #[.slice s4.a s4.len s4.cap, .agg l15.toArray] w11 fun e17 w16 =>
  ∃ n18 : Int, e17 = .returned (.int .i64 n18) ∧ Jn (
    fun k19 : Bool → World → Prop => (((n13 : Int) != n18) = true → k19 true w16) ∧
    (
      ((n13 : Int) != n18) = false → Jn (
        fun k20 : Bool → World → Prop => ((decide ((n18 : Int) < 0)) = true → k20 true w16) ∧
        (
          (decide ((n18 : Int) < 0)) = false → ∃ a21 : Addr, s4.a = some a21 ∧ ((0 : Int) ≤ n18 ∧ n18 < ((s4.len : Nat) : Int)) ∧
          ∃ b22 : Bool, w16.cell? ((a21.add (Int.toNat n18 * 40)).add 39) = some (.bool b22) ∧
          k20 b22 w16)
        )
      (fun (b23 : Bool) (w24 : World) => k19 (!(b14 == b23)) w24))
    )
  (
    fun (b25 : Bool) (w26 : World) => (b25 = true → Q (.bool false) w26) ∧ (
      b25 = false → ∃ (I27 : Int → World → Prop) (μ28 : Int → World → Nat), I27 0 w26 ∧
      ∀ (n29 : Int) (w30 : World), I27 n29 w30 → (
        (decide ((n29 : Int) < ((s4.len : Nat) : Int))) = true → Nx (w30.drew) fun w31 =>
        ∃ W32 : Nat → Prop, ∃ a33 : Addr, s4.a = some a33 ∧ ((0 : Int) ≤ n29 ∧ n29 < ((s4.len : Nat) : Int)) ∧
        ¬ W32 (a33.add (Int.toNat n29 * 40)).block ∧ ∃ l34 : List Value, rdCells w31 (a33.add (Int.toNat n29 * 40)) 0 40 = some l34 ∧
        ¬ W32 (⟨w.heap.size, 0, none⟩ : Addr).block ∧ ∃ l35 : List Value, rdCells w31 ⟨w.heap.size, 0, none⟩ 0 37 = some l35 ∧
        ∃ a36 : Addr, s4.a = some a36 ∧ ((0 : Int) ≤ n29 ∧ n29 < ((s4.len : Nat) : Int)) ∧
        ¬ W32 (a36.add (Int.toNat n29 * 40)).block ∧ ∃ l37 : List Value, rdCells w31 (a36.add (Int.toNat n29 * 40)) 0 40 = some l37 ∧
        ¬ W32 (⟨w.heap.size, 0, none⟩ : Addr).block ∧ ∃ l38 : List Value, rdCells w31 ⟨w.heap.size, 0, none⟩ 0 37 = some l38 ∧
        Calls Tryd.prog F.acl_Hits #[.agg l34.toArray, .agg l35.toArray] w31 fun e40 w39 =>
        ∃ b41 : Bool, e40 = .returned (.bool b41) ∧ Chg W32 w31 w39 ∧ Calls Tryd.prog F.ref32_Hits #[.agg l37.toArray, .agg l38.toArray] w39 fun e43 w42 =>
        ∃ b44 : Bool, e43 = .returned (.bool b44) ∧ Chg W32 w39 w42 ∧ (
          (!(b41 == b44)) = true → (true = true → Q (.bool false) w42) ∧ (
            true = false → I27 (IntKind.wrap .i64 (n29 + 1)) w42 ∧ μ28 (IntKind.wrap .i64 (n29 + 1)) w42 < μ28 n29 w30)
          )
        ∧ (
          (!(b41 == b44)) = false → ∃ a45 : Addr, s4.a = some a45 ∧ ((0 : Int) ≤ n29 ∧ n29 < ((s4.len : Nat) : Int)) ∧
          ¬ W32 (a45.add (Int.toNat n29 * 40)).block ∧ ∃ l46 : List Value, rdCells w42 (a45.add (Int.toNat n29 * 40)) 0 40 = some l46 ∧
          ∃ a47 : Addr, s4.a = some a47 ∧ ((0 : Int) ≤ n29 ∧ n29 < ((s4.len : Nat) : Int)) ∧
          ¬ W32 (a47.add (Int.toNat n29 * 40)).block ∧ ∃ l48 : List Value, rdCells w42 (a47.add (Int.toNat n29 * 40)) 0 40 = some l48 ∧
          Calls Tryd.prog F.acl_Good #[.agg l46.toArray] w42 fun e50 w49 => ∃ b51 : Bool, e50 = .returned (.bool b51) ∧
          Chg W32 w42 w49 ∧ Calls Tryd.prog F.ref32_Good #[.agg l48.toArray] w49 fun e53 w52 =>
          ∃ b54 : Bool, e53 = .returned (.bool b54) ∧ ((!(b51 == b54)) = true → Q (.bool false) w52) ∧
          (
            (!(b51 == b54)) = false → I27 (IntKind.wrap .i64 (n29 + 1)) w52 ∧ μ28 (IntKind.wrap .i64 (n29 + 1)) w52 < μ28 n29 w30)
          )
        )
      ∧ (
        (decide ((n29 : Int) < ((s4.len : Nat) : Int))) = false → Calls Tryd.prog F.law32_lives #[] w30 fun e56 w55 =>
        ∃ b57 : Bool, e56 = .returned (.bool b57) ∧ Q (.bool b57) w55)
      )
    )
def A.law32_AclHits : AT := (.seq (.reg []) (.seq (.reg []) (.seq (.drw 8 true ⟨[0, 1, 0, 6, 8, 16, 16, 63, 255], [0, 1, 0, 6, 8, 16, 16, 32, 64]⟩ [4096, 8192, 16384, 32768, 2048, 65536, 131072, 32, 64] [1, 4096, 8, 24576, 32768, 2048, 2048, 65536, 131072] (.take 0 (.take 2 (.eff 1 (.out 3 false (.take 4 (.take 5 (.take 6 (.take 7 (.tail [.run])))))))))) (.seq (.reg []) (.seq (.seq (.reg [.run, .run, .run, .run, .split 11, .run, .run, .run, .split 5]) (.cond (.seq (.reg []) .leaf) .leaf)) (.seq (.seq (.reg []) (.blk (.loop [(8, (.int .i64))] [0, 3] (.seq (.seq (.reg []) (.cond .leaf .leaf)) (.seq (.blk (.seq (.drw 23 true ⟨[0, 0, 3, 4, 0, 24, 0, 0, 192, 256, 0, 1568, 2080, 6144, 8192, 8192, 57344, 73728, 139264, 8192, 8192, 1581056, 2105344, 4464640, 8658944, 16785408], [0, 0, 3, 4, 0, 24, 0, 0, 192, 256, 0, 1536, 2080, 4096, 8192, 8192, 57344, 73728, 139264, 8192, 8192, 1581056, 2105344, 4202496, 8658944, 16785408]⟩ [8796093022208, 17592186044416, 35184372088832, 70368744177664, 140737488355328, 281474976710656, 562949953421312, 1125899906842624, 2251799813685248, 4503599627370496, 9007199254740992, 18014398509481984, 36028797018963968, 72057594037927936, 144115188075855872, 288230376151711744, 576460752303423488, 1152921504606846976, 2305843009213693952, 4611686018427387904, 9223372036854775808, 18446744073709551616, 36893488147419103232, 73786976294838206464, 147573952589676412928, 295147905179352825856] [1, 256, 26388279066624, 35184372088832, 8, 211106232532992, 1, 256, 1688849860263936, 2251799813685248, 8, 13510798882111488, 18295873486192640, 36028797018963968, 72057594037927937, 72057594037928192, 504403158265495552, 648518346341351424, 1224979098644774912, 72057594037927937, 72057594037928192, 13907115649320091648, 18518801667747479552, 36965545741457031168, 76164876898089828352, 147646010183714340864] (.take 0 (.take 1 (.take 2 (.take 3 (.take 4 (.take 6 (.take 7 (.take 8 (.take 9 (.take 10 (.eff 5 (.eff 11 (.take 12 (.take 13 (.sp 56 (.take 14 (.take 15 (.take 16 (.take 17 (.take 18 (.take 19 (.take 20 (.take 21 (.take 22 (.tail [.run, .run, .run])))))))))) (.take 14 (.take 15 (.take 16 (.take 17 (.take 19 (.take 20 (.take 21 (.take 22 (.eff 18 (.tail [.run, .run, .run])))))))))))))))))))))))))) (.cond (.seq (.reg []) .leaf) .leaf))) (.reg [])))))) (.seq (.reg []) .leaf)))))))
theorem W.law32_AclHits_eq (l : Sl) (f : Array Value) (w : World) (Q : Value → World → Prop) : W.law32_AclHits l f w Q = DF Tryd.prog tk A.law32_AclHits Tryd.f3 [.slice l.a l.len l.cap, .agg f] w Q := by kernel_rfl
theorem W.law32_AclHits_ok (l : Sl) (f : Array Value) (w : World) (Q : Value → World → Prop) (h : W.law32_AclHits l f w Q) : Calls Tryd.prog F.law32_AclHits #[.slice l.a l.len l.cap, .agg f] w fun e w1 => ∃ v, e = .returned v ∧ Q v w1 :=
  calls_of_DF hmix Tryd.func3 (by kernel_rfl) (Eq.mp (W.law32_AclHits_eq l f w Q) h)

/-- stanchion/stanchionlaw32.AclCovers -/
def W.law32_AclCovers (a : Array Value) (b : Array Value) (f : Array Value) (w : World) (Q : Value → World → Prop) : Prop :=
  Nx (w.alloc (.cells a Ty.api_Rule)) fun w1 => Nx (w1.alloc (.cells b Ty.api_Rule)) fun w2 =>
  Nx (w2.alloc (.cells f Ty.api_Flow)) fun w3 => ∃ l4 : List Value, rdCells w3 ⟨w.heap.size, 0, none⟩ 0 40 = some l4 ∧
  ∃ l5 : List Value, rdCells w3 ⟨w1.heap.size, 0, none⟩ 0 40 = some l5 ∧ Calls Tryd.prog F.acl_Covers #[.agg l4.toArray, .agg l5.toArray] w3 fun e7 w6 =>
  ∃ b8 : Bool, e7 = .returned (.bool b8) ∧ ∃ l9 : List Value, rdCells w6 ⟨w.heap.size, 0, none⟩ 0 40 = some l9 ∧
  ∃ l10 : List Value, rdCells w6 ⟨w1.heap.size, 0, none⟩ 0 40 = some l10 ∧ Calls Tryd.prog F.ref32_Covers #[.agg l9.toArray, .agg l10.toArray] w6 fun e12 w11 =>
  ∃ b13 : Bool, e12 = .returned (.bool b13) ∧ Jn (
    fun k14 : Bool → World → Prop => (
      (b8 == b13) = true → Jn (
        fun k15 : Bool → World → Prop => ((!b8) = true → k15 true w11) ∧ (
          (!b8) = false → ∃ l16 : List Value, rdCells w11 ⟨w1.heap.size, 0, none⟩ 0 40 = some l16 ∧
          ∃ l17 : List Value, rdCells w11 ⟨w2.heap.size, 0, none⟩ 0 37 = some l17 ∧
          Calls Tryd.prog F.acl_Hits #[.agg l16.toArray, .agg l17.toArray] w11 fun e19 w18 =>
          ∃ b20 : Bool, e19 = .returned (.bool b20) ∧ k15 (!b20) w18)
        )
      (
        fun (b21 : Bool) (w22 : World) => Jn (
          fun k23 : Bool → World → Prop => (b21 = true → k23 true w22) ∧ (
            b21 = false → ∃ l24 : List Value, rdCells w22 ⟨w.heap.size, 0, none⟩ 0 40 = some l24 ∧
            ∃ l25 : List Value, rdCells w22 ⟨w2.heap.size, 0, none⟩ 0 37 = some l25 ∧
            Calls Tryd.prog F.acl_Hits #[.agg l24.toArray, .agg l25.toArray] w22 fun e27 w26 =>
            ∃ b28 : Bool, e27 = .returned (.bool b28) ∧ k23 b28 w26)
          )
        (fun (b29 : Bool) (w30 : World) => k14 b29 w30))
      )
    ∧ ((b8 == b13) = false → k14 false w11))
  (
    fun (b31 : Bool) (w32 : World) => Jn (
      fun k33 : Bool → World → Prop => (
        b31 = true → ∃ l34 : List Value, rdCells w32 ⟨w.heap.size, 0, none⟩ 0 40 = some l34 ∧
        Calls Tryd.prog F.ref32_Good #[.agg l34.toArray] w32 fun e36 w35 => ∃ b37 : Bool, e36 = .returned (.bool b37) ∧
        Jn (
          fun k38 : Bool → World → Prop => ((!b37) = true → k38 true w35) ∧ (
            (!b37) = false → ∃ l39 : List Value, rdCells w35 ⟨w.heap.size, 0, none⟩ 0 40 = some l39 ∧
            ∃ l40 : List Value, rdCells w35 ⟨w.heap.size, 0, none⟩ 0 40 = some l40 ∧ Calls Tryd.prog F.acl_Covers #[.agg l39.toArray, .agg l40.toArray] w35 fun e42 w41 =>
            ∃ b43 : Bool, e42 = .returned (.bool b43) ∧ k38 b43 w41)
          )
        (fun (b44 : Bool) (w45 : World) => k33 b44 w45))
      ∧ (b31 = false → k33 false w32))
    (
      fun (b46 : Bool) (w47 : World) => Jn (
        fun k48 : Bool → World → Prop => (
          b46 = true → Calls Tryd.prog F.law32_lives #[] w47 fun e50 w49 => ∃ b51 : Bool, e50 = .returned (.bool b51) ∧
          k48 b51 w49)
        ∧ (b46 = false → k48 false w47))
      (fun (b52 : Bool) (w53 : World) => Q (.bool b52) w53))
    )
def A.law32_AclCovers : AT := (.seq (.reg []) (.seq (.reg []) (.seq (.reg [.run, .run, .run, .run, .run, .run, .split 13, .run, .run, .split 4, .run, .run, .run, .run, .run, .split 3, .run, .run, .run, .run, .run, .split 8, .run, .run, .run, .split 3, .run, .run, .run, .run, .run, .split 1]) .leaf)))
theorem W.law32_AclCovers_eq (a : Array Value) (b : Array Value) (f : Array Value) (w : World) (Q : Value → World → Prop) : W.law32_AclCovers a b f w Q = DF Tryd.prog tk A.law32_AclCovers Tryd.f4 [.agg a, .agg b, .agg f] w Q := by kernel_rfl
theorem W.law32_AclCovers_ok (a : Array Value) (b : Array Value) (f : Array Value) (w : World) (Q : Value → World → Prop) (h : W.law32_AclCovers a b f w Q) : Calls Tryd.prog F.law32_AclCovers #[.agg a, .agg b, .agg f] w fun e w1 => ∃ v, e = .returned v ∧ Q v w1 :=
  calls_of_DF hmix Tryd.func4 (by kernel_rfl) (Eq.mp (W.law32_AclCovers_eq a b f w Q) h)

/-- stanchion/stanchionlaw32.AclIdles -/
def W.law32_AclIdles (l : Sl) (w : World) (Q : Value → World → Prop) : Prop :=
  Calls Tryd.prog F.law32_Few #[.slice l.a l.len l.cap] w fun e2 w1 => ∃ s3 : Sl, e2 = .returned (.slice s3.a s3.len s3.cap) ∧
  Calls Tryd.prog F.law32_Few #[.slice s3.a s3.len s3.cap] w1 fun e5 w4 => ∃ s6 : Sl, e5 = .returned (.slice s6.a s6.len s6.cap) ∧
  Calls Tryd.prog F.acl_Idle #[.slice s6.a s6.len s6.cap] w4 fun e8 w7 => ∃ s9 : Sl, e8 = .returned (.slice s9.a s9.len s9.cap) ∧
  Calls Tryd.prog F.law32_Few #[.slice s3.a s3.len s3.cap] w7 fun e11 w10 =>
  ∃ s12 : Sl, e11 = .returned (.slice s12.a s12.len s12.cap) ∧ Calls Tryd.prog F.acl_Slim #[.slice s12.a s12.len s12.cap] w10 fun e14 w13 =>
  ∃ s15 : Sl, e14 = .returned (.slice s15.a s15.len s15.cap) ∧ ∃ (I16 : Int → Int → Int → World → Prop) (μ17 : Int → Int → Int → World → Nat), I16 0 0 0 w13 ∧
  ∀ (n18 : Int) (n19 : Int) (n20 : Int) (w21 : World), I16 n18 n19 n20 w21 →
  (
    (decide ((n20 : Int) < ((s3.len : Nat) : Int))) = true → Jn (
      fun k22 : Int → Int → World → Prop => Calls Tryd.prog F.ref32_Idle #[.slice s3.a s3.len s3.cap, .int .i64 n20] w21 fun e24 w23 =>
      ∃ b25 : Bool, e24 = .returned (.bool b25) ∧ (
        b25 = true → Jn (
          fun k26 : Bool → World → Prop => ((decide ((n18 : Int) ≥ ((s9.len : Nat) : Int))) = true → k26 true w23) ∧
          (
            (decide ((n18 : Int) ≥ ((s9.len : Nat) : Int))) = false → ∃ a27 : Addr, s9.a = some a27 ∧
            ((0 : Int) ≤ n18 ∧ n18 < ((s9.len : Nat) : Int)) ∧ ∃ n28 : Int, w23.cell? (a27.add (Int.toNat n18 * 1)) = some (.int .i64 n28) ∧
            k26 ((n28 : Int) != n20) w23)
          )
        (
          fun (b29 : Bool) (w30 : World) => (b29 = true → Q (.bool false) w30) ∧ (b29 = false → k22 (IntKind.wrap .i64 (n18 + 1)) n19 w30))
        )
      ∧ (
        b25 = false → Nx (w23.drew) fun w31 => (
          (decide ((n19 : Int) ≥ ((s15.len : Nat) : Int))) = true → (true = true → Q (.bool false) w31) ∧
          (true = false → k22 n18 (IntKind.wrap .i64 (n19 + 1)) w31))
        ∧ (
          (decide ((n19 : Int) ≥ ((s15.len : Nat) : Int))) = false → ∃ a32 : Addr, s15.a = some a32 ∧
          ((0 : Int) ≤ n19 ∧ n19 < ((s15.len : Nat) : Int)) ∧ ¬ False ∧ ∃ l33 : List Value, rdCells w31 (a32.add (Int.toNat n19 * 40)) 0 40 = some l33 ∧
          ∃ a34 : Addr, s3.a = some a34 ∧ ((0 : Int) ≤ n20 ∧ n20 < ((s3.len : Nat) : Int)) ∧
          ¬ False ∧ ∃ l35 : List Value, rdCells w31 (a34.add (Int.toNat n20 * 40)) 0 40 = some l35 ∧
          ∃ b36 : Bool, AggEq Tryd.prog Ty.api_Rule l33.toArray l35.toArray b36 ∧ ((!b36) = true → Q (.bool false) w31) ∧
          ((!b36) = false → k22 n18 (IntKind.wrap .i64 (n19 + 1)) w31))
        )
      )
    (
      fun (n37 : Int) (n38 : Int) (w39 : World) => I16 n37 n38 (IntKind.wrap .i64 (n20 + 1)) w39 ∧
      μ17 n37 n38 (IntKind.wrap .i64 (n20 + 1)) w39 < μ17 n18 n19 n20 w21)
    )
  ∧ (
    (decide ((n20 : Int) < ((s3.len : Nat) : Int))) = false → Jn (
      fun k40 : Bool → World → Prop => (
        (((n18 : Int) == ((s9.len : Nat) : Int)) && ((n19 : Int) == ((s15.len : Nat) : Int))) = true →
        Calls Tryd.prog F.law32_lives #[] w21 fun e42 w41 => ∃ b43 : Bool, e42 = .returned (.bool b43) ∧
        k40 b43 w41)
      ∧ (
        (((n18 : Int) == ((s9.len : Nat) : Int)) && ((n19 : Int) == ((s15.len : Nat) : Int))) = false →
        k40 false w21)
      )
    (fun (b44 : Bool) (w45 : World) => Q (.bool b44) w45))
def A.law32_AclIdles : AT := (.seq (.reg []) (.seq (.reg []) (.seq (.reg []) (.seq (.reg []) (.seq (.seq (.reg []) (.blk (.loop [(5, (.int .i64)), (6, (.int .i64)), (7, (.int .i64))] [0, 3, 4] (.seq (.seq (.reg []) (.cond .leaf .leaf)) (.seq (.jk [(5, (.int .i64)), (6, (.int .i64))] [0, 3, 4, 7] (.blk (.seq (.seq (.reg []) (.cond (.seq (.seq (.reg [.run, .run, .run, .run, .run, .split 6]) (.cond (.seq (.reg []) .leaf) .leaf)) (.seq (.reg []) .leaf)) .leaf)) (.seq (.seq (.drw 13 false ⟨[0, 0, 2, 5, 8, 16, 16, 112, 144, 16, 16, 1552, 2064, 4368, 8208], [0, 0, 2, 5, 8, 16, 16, 112, 144, 16, 16, 1552, 2064, 4368, 8208]⟩ [549755813888, 1099511627776, 2199023255552, 4398046511104, 8796093022208, 17592186044416, 35184372088832, 70368744177664, 140737488355328, 281474976710656, 562949953421312, 1125899906842624, 2251799813685248, 4503599627370496, 9007199254740992] [64, 16, 1099511627776, 2748779069440, 4398046511104, 8796093022224, 8796093022272, 61572651155456, 79164837199872, 8796093022209, 8796093022336, 853221023154176, 1134695999864832, 2401333395062784, 4512395720392704] (.take 0 (.take 1 (.take 2 (.take 3 (.take 4 (.sp 43 (.take 5 (.take 6 (.take 7 (.take 8 (.take 9 (.take 10 (.take 11 (.take 12 (.tail [.run, .run]))))))))) (.take 5 (.take 6 (.take 7 (.take 8 (.take 9 (.take 10 (.take 11 (.take 12 (.tail [.run, .run])))))))))))))))) (.cond (.seq (.reg []) .leaf) .leaf)) (.reg []))))) (.reg [])))))) (.seq (.reg [.run, .run, .run, .run, .run, .pure 4, .run, .run, .run, .run, .run, .split 1]) .leaf))))))
theorem W.law32_AclIdles_eq (l : Sl) (w : World) (Q : Value → World → Prop) : W.law32_AclIdles l w Q = DF Tryd.prog tk A.law32_AclIdles Tryd.f5 [.slice l.a l.len l.cap] w Q := by kernel_rfl
theorem W.law32_AclIdles_ok (l : Sl) (w : World) (Q : Value → World → Prop) (h : W.law32_AclIdles l w Q) : Calls Tryd.prog F.law32_AclIdles #[.slice l.a l.len l.cap] w fun e w1 => ∃ v, e = .returned v ∧ Q v w1 :=
  calls_of_DF hmix Tryd.func5 (by kernel_rfl) (Eq.mp (W.law32_AclIdles_eq l w Q) h)

/-- stanchion/stanchionlaw32.AclSame -/
def W.law32_AclSame (l : Sl) (f : Array Value) (w : World) (Q : Value → World → Prop) : Prop :=
  Nx (w.alloc (.cells f Ty.api_Flow)) fun w1 => Calls Tryd.prog F.law32_Few #[.slice l.a l.len l.cap] w1 fun e3 w2 =>
  ∃ s4 : Sl, e3 = .returned (.slice s4.a s4.len s4.cap) ∧ Calls Tryd.prog F.law32_Few #[.slice s4.a s4.len s4.cap] w2 fun e6 w5 =>
  ∃ s7 : Sl, e6 = .returned (.slice s7.a s7.len s7.cap) ∧ Calls Tryd.prog F.acl_Slim #[.slice s7.a s7.len s7.cap] w5 fun e9 w8 =>
  ∃ s10 : Sl, e9 = .returned (.slice s10.a s10.len s10.cap) ∧ Nx (w8.drew) fun w11 =>
  ∃ W12 : Nat → Prop, ¬ W12 (⟨w.heap.size, 0, none⟩ : Addr).block ∧ ∃ l13 : List Value, rdCells w11 ⟨w.heap.size, 0, none⟩ 0 37 = some l13 ∧
  Calls Tryd.prog F.law32_Few #[.slice s4.a s4.len s4.cap] w11 fun e15 w14 =>
  ∃ s16 : Sl, e15 = .returned (.slice s16.a s16.len s16.cap) ∧ Chg W12 w11 w14 ∧
  Calls Tryd.prog F.acl_First #[.slice s16.a s16.len s16.cap, .agg l13.toArray] w14 fun e18 w17 =>
  ∃ n19 : Int, ∃ b20 : Bool, e18 = .returned (.tuple #[.int .i64 n19, .bool b20]) ∧
  ∃ l21 : List Value, rdCells w17 ⟨w.heap.size, 0, none⟩ 0 37 = some l21 ∧ Calls Tryd.prog F.acl_First #[.slice s10.a s10.len s10.cap, .agg l21.toArray] w17 fun e23 w22 =>
  ∃ n24 : Int, ∃ b25 : Bool, e23 = .returned (.tuple #[.int .i64 n24, .bool b25]) ∧
  Nx (w22.drew) fun w26 => (
    (b20 == b25) = true → (
      ((decide ((n19 : Int) < 0)) == (decide ((n24 : Int) < 0))) = true → (
        (decide ((n19 : Int) < 0)) = true → Jn (
          fun k27 : Bool → World → Prop => (
            true = true → Calls Tryd.prog F.acl_Idle #[.slice s10.a s10.len s10.cap] w26 fun e29 w28 =>
            ∃ s30 : Sl, e29 = .returned (.slice s30.a s30.len s30.cap) ∧ k27 ((((s30.len : Nat) : Int) : Int) == 0) w28)
          ∧ (true = false → k27 false w26))
        (
          fun (b31 : Bool) (w32 : World) => Jn (
            fun k33 : Bool → World → Prop => (
              b31 = true → Calls Tryd.prog F.law32_lives #[] w32 fun e35 w34 => ∃ b36 : Bool, e35 = .returned (.bool b36) ∧
              k33 b36 w34)
            ∧ (b31 = false → k33 false w32))
          (fun (b37 : Bool) (w38 : World) => Q (.bool b37) w38))
        )
      ∧ (
        (decide ((n19 : Int) < 0)) = false → (
          (decide ((n24 : Int) < ((s10.len : Nat) : Int))) = true → ∃ a39 : Addr, s10.a = some a39 ∧
          ((0 : Int) ≤ n24 ∧ n24 < ((s10.len : Nat) : Int)) ∧ ¬ False ∧ ∃ l40 : List Value, rdCells w26 (a39.add (Int.toNat n24 * 40)) 0 40 = some l40 ∧
          ∃ a41 : Addr, s4.a = some a41 ∧ ((0 : Int) ≤ n19 ∧ n19 < ((s4.len : Nat) : Int)) ∧
          ¬ False ∧ ∃ l42 : List Value, rdCells w26 (a41.add (Int.toNat n19 * 40)) 0 40 = some l42 ∧
          ∃ b43 : Bool, AggEq Tryd.prog Ty.api_Rule l40.toArray l42.toArray b43 ∧ Jn (
            fun k44 : Bool → World → Prop => (
              b43 = true → Calls Tryd.prog F.acl_Idle #[.slice s10.a s10.len s10.cap] w26 fun e46 w45 =>
              ∃ s47 : Sl, e46 = .returned (.slice s47.a s47.len s47.cap) ∧ k44 ((((s47.len : Nat) : Int) : Int) == 0) w45)
            ∧ (b43 = false → k44 false w26))
          (
            fun (b48 : Bool) (w49 : World) => Jn (
              fun k50 : Bool → World → Prop => (
                b48 = true → Calls Tryd.prog F.law32_lives #[] w49 fun e52 w51 => ∃ b53 : Bool, e52 = .returned (.bool b53) ∧
                k50 b53 w51)
              ∧ (b48 = false → k50 false w49))
            (fun (b54 : Bool) (w55 : World) => Q (.bool b54) w55))
          )
        ∧ (
          (decide ((n24 : Int) < ((s10.len : Nat) : Int))) = false → Jn (
            fun k56 : Bool → World → Prop => (
              false = true → Calls Tryd.prog F.acl_Idle #[.slice s10.a s10.len s10.cap] w26 fun e58 w57 =>
              ∃ s59 : Sl, e58 = .returned (.slice s59.a s59.len s59.cap) ∧ k56 ((((s59.len : Nat) : Int) : Int) == 0) w57)
            ∧ (false = false → k56 false w26))
          (
            fun (b60 : Bool) (w61 : World) => Jn (
              fun k62 : Bool → World → Prop => (
                b60 = true → Calls Tryd.prog F.law32_lives #[] w61 fun e64 w63 => ∃ b65 : Bool, e64 = .returned (.bool b65) ∧
                k62 b65 w63)
              ∧ (b60 = false → k62 false w61))
            (fun (b66 : Bool) (w67 : World) => Q (.bool b66) w67))
          )
        )
      )
    ∧ (
      ((decide ((n19 : Int) < 0)) == (decide ((n24 : Int) < 0))) = false → Jn (
        fun k68 : Bool → World → Prop => (
          false = true → Calls Tryd.prog F.acl_Idle #[.slice s10.a s10.len s10.cap] w26 fun e70 w69 =>
          ∃ s71 : Sl, e70 = .returned (.slice s71.a s71.len s71.cap) ∧ k68 ((((s71.len : Nat) : Int) : Int) == 0) w69)
        ∧ (false = false → k68 false w26))
      (
        fun (b72 : Bool) (w73 : World) => Jn (
          fun k74 : Bool → World → Prop => (
            b72 = true → Calls Tryd.prog F.law32_lives #[] w73 fun e76 w75 => ∃ b77 : Bool, e76 = .returned (.bool b77) ∧
            k74 b77 w75)
          ∧ (b72 = false → k74 false w73))
        (fun (b78 : Bool) (w79 : World) => Q (.bool b78) w79))
      )
    )
  ∧ (
    (b20 == b25) = false → Jn (
      fun k80 : Bool → World → Prop => (
        false = true → Calls Tryd.prog F.acl_Idle #[.slice s10.a s10.len s10.cap] w26 fun e82 w81 =>
        ∃ s83 : Sl, e82 = .returned (.slice s83.a s83.len s83.cap) ∧ k80 ((((s83.len : Nat) : Int) : Int) == 0) w81)
      ∧ (false = false → k80 false w26))
    (
      fun (b84 : Bool) (w85 : World) => Jn (
        fun k86 : Bool → World → Prop => (
          b84 = true → Calls Tryd.prog F.law32_lives #[] w85 fun e88 w87 => ∃ b89 : Bool, e88 = .returned (.bool b89) ∧
          k86 b89 w87)
        ∧ (b84 = false → k86 false w85))
      (fun (b90 : Bool) (w91 : World) => Q (.bool b90) w91))
    )
def A.law32_AclSame : AT := (.seq (.reg []) (.seq (.reg []) (.seq (.reg []) (.seq (.drw 8 true ⟨[0, 1, 0, 6, 8, 16, 16, 63, 255], [0, 1, 0, 6, 8, 16, 16, 32, 64]⟩ [65536, 131072, 262144, 524288, 32768, 1048576, 2097152, 64, 128] [1, 65536, 8, 393216, 524288, 32768, 32768, 1048576, 2097152] (.take 0 (.take 2 (.eff 1 (.out 3 false (.take 4 (.take 5 (.take 6 (.take 7 (.tail [.run])))))))))) (.seq (.reg []) (.seq (.drw 27 false ⟨[0, 0, 3, 4, 8, 24, 8, 72, 168, 264, 520, 1024, 3072, 5120, 8192, 8192, 40960, 90112, 139264, 262144, 262144, 1835008, 2359296, 262144, 262144, 25427968, 33816576, 71565312, 134488064, 268444672, 536871936, 1074003968, 2147483648, 6442450944, 10737418240, 19327352832, 36507222016, 77309411328, 137438953472, 412316860416, 1099511627775], [0, 0, 3, 4, 8, 24, 8, 72, 168, 264, 512, 1024, 3072, 5120, 8192, 8192, 40960, 90112, 139264, 262144, 262144, 1835008, 2359296, 262144, 262144, 25427968, 33816576, 71565312, 134488064, 268444672, 536871936, 1073741824, 2147483648, 6442450944, 10737418240, 19327352832, 36507222016, 68719476736, 137438953472, 412316860416, 549755813888]⟩ [268435456, 536870912, 1073741824, 2147483648, 4294967296, 8589934592, 17179869184, 34359738368, 68719476736, 137438953472, 274877906944, 549755813888, 1099511627776, 2199023255552, 4398046511104, 8796093022208, 17592186044416, 35184372088832, 70368744177664, 140737488355328, 281474976710656, 562949953421312, 1125899906842624, 2251799813685248, 4503599627370496, 9007199254740992, 18014398509481984, 36028797018963968, 72057594037927936, 144115188075855872, 288230376151711744, 576460752303423488, 1152921504606846976, 2305843009213693952, 4611686018427387904, 9223372036854775808, 18446744073709551616, 36893488147419103232, 73786976294838206464, 147573952589676412928, 16] [128, 512, 805306368, 1073741824, 2147483712, 6442450944, 2147483904, 19327352832, 45097156608, 70866960384, 137438953472, 274877907008, 824633720832, 1374389534720, 2199023255808, 2199023255584, 10995116277760, 24189255811072, 37383395344384, 70368744177696, 70368744177920, 492581209243648, 633318697598976, 70368744177665, 70368744177728, 6825768185233408, 9077567998918656, 19210667160502272, 36101364786397184, 72060067939090432, 144115462953762816, 288230376151711744, 576460752303423520, 1729382256910270464, 2882303761517117440, 5188146770730811392, 9799832789158199296, 18446744073709551616, 36893488147419103232, 110680464442257309696, 147573952589676412928] (.take 0 (.take 1 (.take 2 (.take 3 (.sp 31 (.take 4 (.take 5 (.take 6 (.take 7 (.take 8 (.take 9 (.take 10 (.sp 38 (.take 11 (.take 12 (.take 13 (.sp 41 (.take 14 (.take 15 (.take 16 (.take 17 (.take 18 (.take 19 (.take 20 (.take 21 (.take 22 (.take 23 (.take 24 (.take 25 (.take 26 (.tail [.run, .run, .run, .run, .run, .split 4, .run, .run, .run, .run, .run, .split 1, .run, .run])))))))))))))) (.take 14 (.take 15 (.take 16 (.take 17 (.take 18 (.sp 46 (.take 19 (.take 20 (.take 21 (.take 22 (.take 23 (.take 24 (.take 25 (.take 26 (.tail [.run, .run, .run, .run, .run, .split 4, .run, .run, .run, .run, .run, .split 1, .run, .run]))))))))) (.take 19 (.take 20 (.take 21 (.take 22 (.take 23 (.take 24 (.take 25 (.take 26 (.tail [.run, .run, .run, .run, .run, .split 4, .run, .run, .run, .run, .run, .split 1, .run, .run]))))))))))))))))))) (.take 11 (.take 12 (.take 13 (.take 14 (.take 15 (.take 16 (.take 17 (.take 18 (.take 19 (.take 20 (.take 21 (.take 22 (.take 23 (.take 24 (.take 25 (.take 26 (.tail [.run, .run, .run, .run, .run, .split 4, .run, .run, .run, .run, .run, .split 1, .run, .run]))))))))))))))))))))))))) (.take 4 (.take 5 (.take 6 (.take 7 (.take 8 (.take 9 (.take 10 (.take 11 (.take 12 (.take 13 (.take 14 (.take 15 (.take 16 (.take 17 (.take 18 (.take 19 (.take 20 (.take 21 (.take 22 (.take 23 (.take 24 (.take 25 (.take 26 (.tail [.run, .run, .run, .run, .run, .split 4, .run, .run, .run, .run, .run, .split 1, .run, .run])))))))))))))))))))))))))))))) .leaf))))))
theorem W.law32_AclSame_eq (l : Sl) (f : Array Value) (w : World) (Q : Value → World → Prop) : W.law32_AclSame l f w Q = DF Tryd.prog tk A.law32_AclSame Tryd.f6 [.slice l.a l.len l.cap, .agg f] w Q := by kernel_rfl
theorem W.law32_AclSame_ok (l : Sl) (f : Array Value) (w : World) (Q : Value → World → Prop) (h : W.law32_AclSame l f w Q) : Calls Tryd.prog F.law32_AclSame #[.slice l.a l.len l.cap, .agg f] w fun e w1 => ∃ v, e = .returned v ∧ Q v w1 :=
  calls_of_DF hmix Tryd.func6 (by kernel_rfl) (Eq.mp (W.law32_AclSame_eq l f w Q) h)

/-- stanchion/stanchionlaw12.AddrBytes -/
def W.law12_AddrBytes (a : Array Value) (b : Sl) (c : Array Value) (w : World) (Q : Value → World → Prop) : Prop :=
  Nx (w.alloc (.cells a Ty.api_Addr)) fun w1 => Nx (w1.alloc (.cells c Ty.n4_uint8)) fun w2 =>
  Calls Tryd.prog F.law01_Few #[.slice b.a b.len b.cap, .int .i64 20] w2 fun e4 w3 =>
  ∃ s5 : Sl, e4 = .returned (.slice s5.a s5.len s5.cap) ∧ Nx (w3.alloc (.cells #[] Ty.uint8)) fun w6 =>
  ∃ s7 : Sl, ∃ w8 : World, Sem.run Tryd.prog (
    Builtin.append_ #[Ty.Sl_uint8, Ty.Sl_uint8] Ty.Sl_uint8 #[.slice (some ⟨w3.heap.size, 0, none⟩) 0 0, .slice s5.a s5.len s5.cap])
  w6 = .ok (.slice s7.a s7.len s7.cap) w8 ∧ Calls Tryd.prog F.addr_Of #[.slice s7.a s7.len s7.cap] w8 fun e10 w9 =>
  ∃ c11 : Array Value, ∃ b12 : Bool, e10 = .returned (.tuple #[.agg c11, .bool b12]) ∧
  Nx (
    w9.alloc (
      .cells #[.bool false, .int .u8 0, .int .u8 0, .int .u8 0, .int .u8 0, .int .u8 0, .int .u8 0, .int .u8 0, .int .u8 0, .int .u8 0, .int .u8 0, .int .u8 0, .int .u8 0, .int .u8 0, .int .u8 0, .int .u8 0, .int .u8 0] Ty.api_Addr)
    )
  fun w13 => StoreOk w13 ⟨w9.heap.size, 0, none⟩ (Array.toList c11) ∧ Array.size c11 = 17 ∧
  Nx (setCells w13 ⟨w9.heap.size, 0, none⟩ 0 (Array.toList c11)) fun w14 => Jn (
    fun k15 : World → Prop => (
      (((((s5.len : Nat) : Int) : Int) != 4) && ((((s5.len : Nat) : Int) : Int) != 16)) = true →
      Jn (
        fun k16 : Bool → World → Prop => (b12 = true → k16 true w14) ∧ (
          b12 = false → ∃ l17 : List Value, rdCells w14 ⟨w9.heap.size, 0, none⟩ 0 17 = some l17 ∧
          ∃ c18 : Array Value, Sem.run Tryd.prog (Instr.build Ty.api_Addr #[]) w14 = .ok (.agg c18) w14 ∧
          ∃ b19 : Bool, AggEq Tryd.prog Ty.api_Addr l17.toArray c18 b19 ∧ k16 (!b19) w14)
        )
      (fun (b20 : Bool) (w21 : World) => (b20 = true → Q (.bool false) w21) ∧ (b20 = false → k15 w21)))
    ∧ (
      (((((s5.len : Nat) : Int) : Int) != 4) && ((((s5.len : Nat) : Int) : Int) != 16)) = false →
      Nx (w14.drew) fun w22 => ∃ W23 : Nat → Prop, ((!b12) = true → (true = true → Q (.bool false) w22) ∧ (true = false → k15 w22)) ∧
      (
        (!b12) = false → ¬ W23 (⟨w9.heap.size, 0, none⟩ : Addr).block ∧ ∃ b24 : Bool, w22.cell? ⟨w9.heap.size, 0, none⟩ = some (.bool b24) ∧
        (
          (!(b24 == ((((s5.len : Nat) : Int) : Int) == 16))) = true → (true = true → Q (.bool false) w22) ∧
          (true = false → k15 w22))
        ∧ (
          (!(b24 == ((((s5.len : Nat) : Int) : Int) == 16))) = false → ¬ W23 (⟨w9.heap.size, 0, none⟩ : Addr).block ∧
          ∃ l25 : List Value, rdCells w22 ⟨w9.heap.size, 0, none⟩ 0 17 = some l25 ∧
          Calls Tryd.prog F.ref12_Good #[.agg l25.toArray] w22 fun e27 w26 => ∃ b28 : Bool, e27 = .returned (.bool b28) ∧
          Chg W23 w22 w26 ∧ ((!b28) = true → (true = true → Q (.bool false) w26) ∧ (true = false → k15 w26)) ∧
          (
            (!b28) = false → ¬ W23 (⟨w9.heap.size, 0, none⟩ : Addr).block ∧ ∃ l29 : List Value, rdCells w26 ⟨w9.heap.size, 0, none⟩ 0 17 = some l29 ∧
            ∃ s31 : ByteArray, (
              ∀ w30 : World, Chg W23 w26 w30 → Sem.run Tryd.prog (convert Ty.Sl_uint8 Ty.string (.slice s5.a s5.len s5.cap)) w30 = .ok (.string s31) w30)
            ∧ Calls Tryd.prog F.ref12_Bytes #[.agg l29.toArray] w26 fun e33 w32 => ∃ s34 : Sl, e33 = .returned (.slice s34.a s34.len s34.cap) ∧
            Chg W23 w26 w32 ∧ ∃ s36 : ByteArray, (
              ∀ w35 : World, Chg W23 w32 w35 → Sem.run Tryd.prog (convert Ty.Sl_uint8 Ty.string (.slice s34.a s34.len s34.cap)) w35 = .ok (.string s36) w35)
            ∧ ((!(ByteArray.toList s36 == ByteArray.toList s31)) = true → Q (.bool false) w32) ∧
            ((!(ByteArray.toList s36 == ByteArray.toList s31)) = false → k15 w32))
          )
        )
      )
    )
  (
    fun  (w37 : World) => ((0 : Int) ≤ 0 ∧ 0 < ((4 : Nat) : Int)) ∧ ∃ n38 : Int, w37.cell? (Addr.add ⟨w1.heap.size, 0, none⟩ (Int.toNat 0 * 1)) = some (.int .u8 n38) ∧
    ((0 : Int) ≤ 1 ∧ 1 < ((4 : Nat) : Int)) ∧ ∃ n39 : Int, w37.cell? (Addr.add ⟨w1.heap.size, 0, none⟩ (Int.toNat 1 * 1)) = some (.int .u8 n39) ∧
    ((0 : Int) ≤ 2 ∧ 2 < ((4 : Nat) : Int)) ∧ ∃ n40 : Int, w37.cell? (Addr.add ⟨w1.heap.size, 0, none⟩ (Int.toNat 2 * 1)) = some (.int .u8 n40) ∧
    ((0 : Int) ≤ 3 ∧ 3 < ((4 : Nat) : Int)) ∧ ∃ n41 : Int, w37.cell? (Addr.add ⟨w1.heap.size, 0, none⟩ (Int.toNat 3 * 1)) = some (.int .u8 n41) ∧
    Calls Tryd.prog F.addr_Four #[.int .u8 n38, .int .u8 n39, .int .u8 n40, .int .u8 n41] w37 fun e43 w42 =>
    ∃ c44 : Array Value, e43 = .returned (.agg c44) ∧ Nx (
      w42.alloc (
        .cells #[.bool false, .int .u8 0, .int .u8 0, .int .u8 0, .int .u8 0, .int .u8 0, .int .u8 0, .int .u8 0, .int .u8 0, .int .u8 0, .int .u8 0, .int .u8 0, .int .u8 0, .int .u8 0, .int .u8 0, .int .u8 0, .int .u8 0] Ty.api_Addr)
      )
    fun w45 => StoreOk w45 ⟨w42.heap.size, 0, none⟩ (Array.toList c44) ∧ Array.size c44 = 17 ∧
    Nx (setCells w45 ⟨w42.heap.size, 0, none⟩ 0 (Array.toList c44)) fun w46 =>
    Nx (w46.drew) fun w47 => ∃ W48 : Nat → Prop, ¬ W48 (⟨w42.heap.size, 0, none⟩ : Addr).block ∧
    ∃ b49 : Bool, w47.cell? ⟨w42.heap.size, 0, none⟩ = some (.bool b49) ∧ (
      b49 = true → (true = true → Q (.bool false) w47) ∧ (
        true = false → ∃ l50 : List Value, rdCells w47 ⟨w.heap.size, 0, none⟩ 0 17 = some l50 ∧
        Calls Tryd.prog F.addr_Bytes #[.agg l50.toArray] w47 fun e52 w51 => ∃ s53 : Sl, e52 = .returned (.slice s53.a s53.len s53.cap) ∧
        Calls Tryd.prog F.addr_Of #[.slice s53.a s53.len s53.cap] w51 fun e55 w54 =>
        ∃ c56 : Array Value, ∃ b57 : Bool, e55 = .returned (.tuple #[.agg c56, .bool b57]) ∧
        Nx (
          w54.alloc (
            .cells #[.bool false, .int .u8 0, .int .u8 0, .int .u8 0, .int .u8 0, .int .u8 0, .int .u8 0, .int .u8 0, .int .u8 0, .int .u8 0, .int .u8 0, .int .u8 0, .int .u8 0, .int .u8 0, .int .u8 0, .int .u8 0, .int .u8 0] Ty.api_Addr)
          )
        fun w58 => StoreOk w58 ⟨w54.heap.size, 0, none⟩ (Array.toList c56) ∧ Array.size c56 = 17 ∧
        Nx (setCells w58 ⟨w54.heap.size, 0, none⟩ 0 (Array.toList c56)) fun w59 =>
        Nx (w59.drew) fun w60 => ∃ W61 : Nat → Prop, ¬ W61 (⟨w.heap.size, 0, none⟩ : Addr).block ∧
        ∃ l62 : List Value, rdCells w60 ⟨w.heap.size, 0, none⟩ 0 17 = some l62 ∧ ¬ W61 (⟨w.heap.size, 0, none⟩ : Addr).block ∧
        ∃ l63 : List Value, rdCells w60 ⟨w.heap.size, 0, none⟩ 0 17 = some l63 ∧ Calls Tryd.prog F.addr_Good #[.agg l62.toArray] w60 fun e65 w64 =>
        ∃ b66 : Bool, e65 = .returned (.bool b66) ∧ Chg W61 w60 w64 ∧ Calls Tryd.prog F.ref12_Good #[.agg l63.toArray] w64 fun e68 w67 =>
        ∃ b69 : Bool, e68 = .returned (.bool b69) ∧ Chg W61 w64 w67 ∧ (
          (b66 == b69) = true → ¬ W61 (⟨w.heap.size, 0, none⟩ : Addr).block ∧ ∃ l70 : List Value, rdCells w67 ⟨w.heap.size, 0, none⟩ 0 17 = some l70 ∧
          ¬ W61 (⟨w.heap.size, 0, none⟩ : Addr).block ∧ ∃ l71 : List Value, rdCells w67 ⟨w.heap.size, 0, none⟩ 0 17 = some l71 ∧
          Calls Tryd.prog F.addr_Bytes #[.agg l70.toArray] w67 fun e73 w72 => ∃ s74 : Sl, e73 = .returned (.slice s74.a s74.len s74.cap) ∧
          Chg W61 w67 w72 ∧ ∃ s76 : ByteArray, (
            ∀ w75 : World, Chg W61 w72 w75 → Sem.run Tryd.prog (convert Ty.Sl_uint8 Ty.string (.slice s74.a s74.len s74.cap)) w75 = .ok (.string s76) w75)
          ∧ Calls Tryd.prog F.ref12_Bytes #[.agg l71.toArray] w72 fun e78 w77 => ∃ s79 : Sl, e78 = .returned (.slice s79.a s79.len s79.cap) ∧
          Chg W61 w72 w77 ∧ ∃ s81 : ByteArray, (
            ∀ w80 : World, Chg W61 w77 w80 → Sem.run Tryd.prog (convert Ty.Sl_uint8 Ty.string (.slice s79.a s79.len s79.cap)) w80 = .ok (.string s81) w80)
          ∧ (
            (ByteArray.toList s76 == ByteArray.toList s81) = true → ¬ W61 (⟨w.heap.size, 0, none⟩ : Addr).block ∧
            ∃ l82 : List Value, rdCells w77 ⟨w.heap.size, 0, none⟩ 0 17 = some l82 ∧ Calls Tryd.prog F.ref12_Good #[.agg l82.toArray] w77 fun e84 w83 =>
            ∃ b85 : Bool, e84 = .returned (.bool b85) ∧ Chg W61 w77 w83 ∧ (
              (!b85) = true → Jn (
                fun k86 : Bool → World → Prop => (
                  true = true → Calls Tryd.prog F.law12_lives #[] w83 fun e88 w87 => ∃ b89 : Bool, e88 = .returned (.bool b89) ∧
                  k86 b89 w87)
                ∧ (true = false → k86 false w83))
              (fun (b90 : Bool) (w91 : World) => Q (.bool b90) w91))
            ∧ (
              (!b85) = false → (
                b57 = true → ¬ W61 (⟨w54.heap.size, 0, none⟩ : Addr).block ∧ ∃ l92 : List Value, rdCells w83 ⟨w54.heap.size, 0, none⟩ 0 17 = some l92 ∧
                ¬ W61 (⟨w.heap.size, 0, none⟩ : Addr).block ∧ ∃ l93 : List Value, rdCells w83 ⟨w.heap.size, 0, none⟩ 0 17 = some l93 ∧
                ∃ b94 : Bool, AggEq Tryd.prog Ty.api_Addr l92.toArray l93.toArray b94 ∧ Jn (
                  fun k95 : Bool → World → Prop => (
                    b94 = true → Calls Tryd.prog F.law12_lives #[] w83 fun e97 w96 => ∃ b98 : Bool, e97 = .returned (.bool b98) ∧
                    k95 b98 w96)
                  ∧ (b94 = false → k95 false w83))
                (fun (b99 : Bool) (w100 : World) => Q (.bool b99) w100))
              ∧ (
                b57 = false → Jn (
                  fun k101 : Bool → World → Prop => (
                    false = true → Calls Tryd.prog F.law12_lives #[] w83 fun e103 w102 => ∃ b104 : Bool, e103 = .returned (.bool b104) ∧
                    k101 b104 w102)
                  ∧ (false = false → k101 false w83))
                (fun (b105 : Bool) (w106 : World) => Q (.bool b105) w106))
              )
            )
          ∧ (
            (ByteArray.toList s76 == ByteArray.toList s81) = false → Jn (
              fun k107 : Bool → World → Prop => (
                false = true → Calls Tryd.prog F.law12_lives #[] w77 fun e109 w108 => ∃ b110 : Bool, e109 = .returned (.bool b110) ∧
                k107 b110 w108)
              ∧ (false = false → k107 false w77))
            (fun (b111 : Bool) (w112 : World) => Q (.bool b111) w112))
          )
        ∧ (
          (b66 == b69) = false → Jn (
            fun k113 : Bool → World → Prop => (
              false = true → Calls Tryd.prog F.law12_lives #[] w67 fun e115 w114 => ∃ b116 : Bool, e115 = .returned (.bool b116) ∧
              k113 b116 w114)
            ∧ (false = false → k113 false w67))
          (fun (b117 : Bool) (w118 : World) => Q (.bool b117) w118))
        )
      )
    ∧ (
      b49 = false → ¬ W48 (⟨w42.heap.size, 0, none⟩ : Addr).block ∧ ∃ l119 : List Value, rdCells w47 ⟨w42.heap.size, 0, none⟩ 0 17 = some l119 ∧
      Calls Tryd.prog F.ref12_Good #[.agg l119.toArray] w47 fun e121 w120 => ∃ b122 : Bool, e121 = .returned (.bool b122) ∧
      Chg W48 w47 w120 ∧ (
        (!b122) = true → (true = true → Q (.bool false) w120) ∧ (
          true = false → ∃ l123 : List Value, rdCells w120 ⟨w.heap.size, 0, none⟩ 0 17 = some l123 ∧
          Calls Tryd.prog F.addr_Bytes #[.agg l123.toArray] w120 fun e125 w124 => ∃ s126 : Sl, e125 = .returned (.slice s126.a s126.len s126.cap) ∧
          Calls Tryd.prog F.addr_Of #[.slice s126.a s126.len s126.cap] w124 fun e128 w127 =>
          ∃ c129 : Array Value, ∃ b130 : Bool, e128 = .returned (.tuple #[.agg c129, .bool b130]) ∧
          Nx (
            w127.alloc (
              .cells #[.bool false, .int .u8 0, .int .u8 0, .int .u8 0, .int .u8 0, .int .u8 0, .int .u8 0, .int .u8 0, .int .u8 0, .int .u8 0, .int .u8 0, .int .u8 0, .int .u8 0, .int .u8 0, .int .u8 0, .int .u8 0, .int .u8 0] Ty.api_Addr)
            )
          fun w131 => StoreOk w131 ⟨w127.heap.size, 0, none⟩ (Array.toList c129) ∧
          Array.size c129 = 17 ∧ Nx (setCells w131 ⟨w127.heap.size, 0, none⟩ 0 (Array.toList c129)) fun w132 =>
          Nx (w132.drew) fun w133 => ∃ W134 : Nat → Prop, ¬ W134 (⟨w.heap.size, 0, none⟩ : Addr).block ∧
          ∃ l135 : List Value, rdCells w133 ⟨w.heap.size, 0, none⟩ 0 17 = some l135 ∧
          ¬ W134 (⟨w.heap.size, 0, none⟩ : Addr).block ∧ ∃ l136 : List Value, rdCells w133 ⟨w.heap.size, 0, none⟩ 0 17 = some l136 ∧
          Calls Tryd.prog F.addr_Good #[.agg l135.toArray] w133 fun e138 w137 => ∃ b139 : Bool, e138 = .returned (.bool b139) ∧
          Chg W134 w133 w137 ∧ Calls Tryd.prog F.ref12_Good #[.agg l136.toArray] w137 fun e141 w140 =>
          ∃ b142 : Bool, e141 = .returned (.bool b142) ∧ Chg W134 w137 w140 ∧ (
            (b139 == b142) = true → ¬ W134 (⟨w.heap.size, 0, none⟩ : Addr).block ∧ ∃ l143 : List Value, rdCells w140 ⟨w.heap.size, 0, none⟩ 0 17 = some l143 ∧
            ¬ W134 (⟨w.heap.size, 0, none⟩ : Addr).block ∧ ∃ l144 : List Value, rdCells w140 ⟨w.heap.size, 0, none⟩ 0 17 = some l144 ∧
            Calls Tryd.prog F.addr_Bytes #[.agg l143.toArray] w140 fun e146 w145 => ∃ s147 : Sl, e146 = .returned (.slice s147.a s147.len s147.cap) ∧
            Chg W134 w140 w145 ∧ ∃ s149 : ByteArray, (
              ∀ w148 : World, Chg W134 w145 w148 → Sem.run Tryd.prog (convert Ty.Sl_uint8 Ty.string (.slice s147.a s147.len s147.cap)) w148 = .ok (.string s149) w148)
            ∧ Calls Tryd.prog F.ref12_Bytes #[.agg l144.toArray] w145 fun e151 w150 =>
            ∃ s152 : Sl, e151 = .returned (.slice s152.a s152.len s152.cap) ∧ Chg W134 w145 w150 ∧
            ∃ s154 : ByteArray, (
              ∀ w153 : World, Chg W134 w150 w153 → Sem.run Tryd.prog (convert Ty.Sl_uint8 Ty.string (.slice s152.a s152.len s152.cap)) w153 = .ok (.string s154) w153)
            ∧ (
              (ByteArray.toList s149 == ByteArray.toList s154) = true → ¬ W134 (⟨w.heap.size, 0, none⟩ : Addr).block ∧
              ∃ l155 : List Value, rdCells w150 ⟨w.heap.size, 0, none⟩ 0 17 = some l155 ∧
              Calls Tryd.prog F.ref12_Good #[.agg l155.toArray] w150 fun e157 w156 => ∃ b158 : Bool, e157 = .returned (.bool b158) ∧
              Chg W134 w150 w156 ∧ (
                (!b158) = true → Jn (
                  fun k159 : Bool → World → Prop => (
                    true = true → Calls Tryd.prog F.law12_lives #[] w156 fun e161 w160 => ∃ b162 : Bool, e161 = .returned (.bool b162) ∧
                    k159 b162 w160)
                  ∧ (true = false → k159 false w156))
                (fun (b163 : Bool) (w164 : World) => Q (.bool b163) w164))
              ∧ (
                (!b158) = false → (
                  b130 = true → ¬ W134 (⟨w127.heap.size, 0, none⟩ : Addr).block ∧ ∃ l165 : List Value, rdCells w156 ⟨w127.heap.size, 0, none⟩ 0 17 = some l165 ∧
                  ¬ W134 (⟨w.heap.size, 0, none⟩ : Addr).block ∧ ∃ l166 : List Value, rdCells w156 ⟨w.heap.size, 0, none⟩ 0 17 = some l166 ∧
                  ∃ b167 : Bool, AggEq Tryd.prog Ty.api_Addr l165.toArray l166.toArray b167 ∧
                  Jn (
                    fun k168 : Bool → World → Prop => (
                      b167 = true → Calls Tryd.prog F.law12_lives #[] w156 fun e170 w169 => ∃ b171 : Bool, e170 = .returned (.bool b171) ∧
                      k168 b171 w169)
                    ∧ (b167 = false → k168 false w156))
                  (fun (b172 : Bool) (w173 : World) => Q (.bool b172) w173))
                ∧ (
                  b130 = false → Jn (
                    fun k174 : Bool → World → Prop => (
                      false = true → Calls Tryd.prog F.law12_lives #[] w156 fun e176 w175 => ∃ b177 : Bool, e176 = .returned (.bool b177) ∧
                      k174 b177 w175)
                    ∧ (false = false → k174 false w156))
                  (fun (b178 : Bool) (w179 : World) => Q (.bool b178) w179))
                )
              )
            ∧ (
              (ByteArray.toList s149 == ByteArray.toList s154) = false → Jn (
                fun k180 : Bool → World → Prop => (
                  false = true → Calls Tryd.prog F.law12_lives #[] w150 fun e182 w181 => ∃ b183 : Bool, e182 = .returned (.bool b183) ∧
                  k180 b183 w181)
                ∧ (false = false → k180 false w150))
              (fun (b184 : Bool) (w185 : World) => Q (.bool b184) w185))
            )
          ∧ (
            (b139 == b142) = false → Jn (
              fun k186 : Bool → World → Prop => (
                false = true → Calls Tryd.prog F.law12_lives #[] w140 fun e188 w187 => ∃ b189 : Bool, e188 = .returned (.bool b189) ∧
                k186 b189 w187)
              ∧ (false = false → k186 false w140))
            (fun (b190 : Bool) (w191 : World) => Q (.bool b190) w191))
          )
        )
      ∧ (
        (!b122) = false → ¬ W48 (⟨w42.heap.size, 0, none⟩ : Addr).block ∧ ∃ l192 : List Value, rdCells w120 ⟨w42.heap.size, 0, none⟩ 0 17 = some l192 ∧
        ∃ s194 : ByteArray, (
          ∀ w193 : World, Chg W48 w120 w193 → Sem.run Tryd.prog (convert Ty.Sl_uint8 Ty.string (.slice (cutA (some ⟨w1.heap.size, 0, none⟩) 1 0 4) (4 - 0) (4 - 0))) w193 = .ok (.string s194) w193)
        ∧ Calls Tryd.prog F.ref12_Bytes #[.agg l192.toArray] w120 fun e196 w195 =>
        ∃ s197 : Sl, e196 = .returned (.slice s197.a s197.len s197.cap) ∧ Chg W48 w120 w195 ∧
        ∃ s199 : ByteArray, (
          ∀ w198 : World, Chg W48 w195 w198 → Sem.run Tryd.prog (convert Ty.Sl_uint8 Ty.string (.slice s197.a s197.len s197.cap)) w198 = .ok (.string s199) w198)
        ∧ ((!(ByteArray.toList s199 == ByteArray.toList s194)) = true → Q (.bool false) w195) ∧
        (
          (!(ByteArray.toList s199 == ByteArray.toList s194)) = false → ∃ l200 : List Value, rdCells w195 ⟨w.heap.size, 0, none⟩ 0 17 = some l200 ∧
          Calls Tryd.prog F.addr_Bytes #[.agg l200.toArray] w195 fun e202 w201 => ∃ s203 : Sl, e202 = .returned (.slice s203.a s203.len s203.cap) ∧
          Calls Tryd.prog F.addr_Of #[.slice s203.a s203.len s203.cap] w201 fun e205 w204 =>
          ∃ c206 : Array Value, ∃ b207 : Bool, e205 = .returned (.tuple #[.agg c206, .bool b207]) ∧
          Nx (
            w204.alloc (
              .cells #[.bool false, .int .u8 0, .int .u8 0, .int .u8 0, .int .u8 0, .int .u8 0, .int .u8 0, .int .u8 0, .int .u8 0, .int .u8 0, .int .u8 0, .int .u8 0, .int .u8 0, .int .u8 0, .int .u8 0, .int .u8 0, .int .u8 0] Ty.api_Addr)
            )
          fun w208 => StoreOk w208 ⟨w204.heap.size, 0, none⟩ (Array.toList c206) ∧
          Array.size c206 = 17 ∧ Nx (setCells w208 ⟨w204.heap.size, 0, none⟩ 0 (Array.toList c206)) fun w209 =>
          Nx (w209.drew) fun w210 => ∃ W211 : Nat → Prop, ¬ W211 (⟨w.heap.size, 0, none⟩ : Addr).block ∧
          ∃ l212 : List Value, rdCells w210 ⟨w.heap.size, 0, none⟩ 0 17 = some l212 ∧
          ¬ W211 (⟨w.heap.size, 0, none⟩ : Addr).block ∧ ∃ l213 : List Value, rdCells w210 ⟨w.heap.size, 0, none⟩ 0 17 = some l213 ∧
          Calls Tryd.prog F.addr_Good #[.agg l212.toArray] w210 fun e215 w214 => ∃ b216 : Bool, e215 = .returned (.bool b216) ∧
          Chg W211 w210 w214 ∧ Calls Tryd.prog F.ref12_Good #[.agg l213.toArray] w214 fun e218 w217 =>
          ∃ b219 : Bool, e218 = .returned (.bool b219) ∧ Chg W211 w214 w217 ∧ (
            (b216 == b219) = true → ¬ W211 (⟨w.heap.size, 0, none⟩ : Addr).block ∧ ∃ l220 : List Value, rdCells w217 ⟨w.heap.size, 0, none⟩ 0 17 = some l220 ∧
            ¬ W211 (⟨w.heap.size, 0, none⟩ : Addr).block ∧ ∃ l221 : List Value, rdCells w217 ⟨w.heap.size, 0, none⟩ 0 17 = some l221 ∧
            Calls Tryd.prog F.addr_Bytes #[.agg l220.toArray] w217 fun e223 w222 => ∃ s224 : Sl, e223 = .returned (.slice s224.a s224.len s224.cap) ∧
            Chg W211 w217 w222 ∧ ∃ s226 : ByteArray, (
              ∀ w225 : World, Chg W211 w222 w225 → Sem.run Tryd.prog (convert Ty.Sl_uint8 Ty.string (.slice s224.a s224.len s224.cap)) w225 = .ok (.string s226) w225)
            ∧ Calls Tryd.prog F.ref12_Bytes #[.agg l221.toArray] w222 fun e228 w227 =>
            ∃ s229 : Sl, e228 = .returned (.slice s229.a s229.len s229.cap) ∧ Chg W211 w222 w227 ∧
            ∃ s231 : ByteArray, (
              ∀ w230 : World, Chg W211 w227 w230 → Sem.run Tryd.prog (convert Ty.Sl_uint8 Ty.string (.slice s229.a s229.len s229.cap)) w230 = .ok (.string s231) w230)
            ∧ (
              (ByteArray.toList s226 == ByteArray.toList s231) = true → ¬ W211 (⟨w.heap.size, 0, none⟩ : Addr).block ∧
              ∃ l232 : List Value, rdCells w227 ⟨w.heap.size, 0, none⟩ 0 17 = some l232 ∧
              Calls Tryd.prog F.ref12_Good #[.agg l232.toArray] w227 fun e234 w233 => ∃ b235 : Bool, e234 = .returned (.bool b235) ∧
              Chg W211 w227 w233 ∧ (
                (!b235) = true → Jn (
                  fun k236 : Bool → World → Prop => (
                    true = true → Calls Tryd.prog F.law12_lives #[] w233 fun e238 w237 => ∃ b239 : Bool, e238 = .returned (.bool b239) ∧
                    k236 b239 w237)
                  ∧ (true = false → k236 false w233))
                (fun (b240 : Bool) (w241 : World) => Q (.bool b240) w241))
              ∧ (
                (!b235) = false → (
                  b207 = true → ¬ W211 (⟨w204.heap.size, 0, none⟩ : Addr).block ∧ ∃ l242 : List Value, rdCells w233 ⟨w204.heap.size, 0, none⟩ 0 17 = some l242 ∧
                  ¬ W211 (⟨w.heap.size, 0, none⟩ : Addr).block ∧ ∃ l243 : List Value, rdCells w233 ⟨w.heap.size, 0, none⟩ 0 17 = some l243 ∧
                  ∃ b244 : Bool, AggEq Tryd.prog Ty.api_Addr l242.toArray l243.toArray b244 ∧
                  Jn (
                    fun k245 : Bool → World → Prop => (
                      b244 = true → Calls Tryd.prog F.law12_lives #[] w233 fun e247 w246 => ∃ b248 : Bool, e247 = .returned (.bool b248) ∧
                      k245 b248 w246)
                    ∧ (b244 = false → k245 false w233))
                  (fun (b249 : Bool) (w250 : World) => Q (.bool b249) w250))
                ∧ (
                  b207 = false → Jn (
                    fun k251 : Bool → World → Prop => (
                      false = true → Calls Tryd.prog F.law12_lives #[] w233 fun e253 w252 => ∃ b254 : Bool, e253 = .returned (.bool b254) ∧
                      k251 b254 w252)
                    ∧ (false = false → k251 false w233))
                  (fun (b255 : Bool) (w256 : World) => Q (.bool b255) w256))
                )
              )
            ∧ (
              (ByteArray.toList s226 == ByteArray.toList s231) = false → Jn (
                fun k257 : Bool → World → Prop => (
                  false = true → Calls Tryd.prog F.law12_lives #[] w227 fun e259 w258 => ∃ b260 : Bool, e259 = .returned (.bool b260) ∧
                  k257 b260 w258)
                ∧ (false = false → k257 false w227))
              (fun (b261 : Bool) (w262 : World) => Q (.bool b261) w262))
            )
          ∧ (
            (b216 == b219) = false → Jn (
              fun k263 : Bool → World → Prop => (
                false = true → Calls Tryd.prog F.law12_lives #[] w217 fun e265 w264 => ∃ b266 : Bool, e265 = .returned (.bool b266) ∧
                k263 b266 w264)
              ∧ (false = false → k263 false w217))
            (fun (b267 : Bool) (w268 : World) => Q (.bool b267) w268))
          )
        )
      )
    )
def A.law12_AddrBytes : AT := (.seq (.reg []) (.seq (.reg []) (.seq (.reg []) (.seq (.jk [] [3, 5] (.seq (.reg [.run, .run, .run, .run, .pure 3]) (.cond (.seq (.reg [.run, .run, .split 3]) (.cond (.seq (.reg []) .leaf) .leaf)) (.seq (.drw 21 true ⟨[0, 1, 2, 4, 12, 4, 36, 68, 148, 260, 516, 1024, 3072, 5120, 9216, 20480, 32768, 98304, 163840, 32768, 557056, 1343488, 2129920], [0, 1, 2, 4, 12, 4, 36, 68, 148, 260, 512, 1024, 3072, 5120, 9216, 16384, 32768, 98304, 163840, 32768, 557056, 1343488, 2129920]⟩ [34359738368, 68719476736, 137438953472, 274877906944, 549755813888, 1099511627776, 2199023255552, 4398046511104, 8796093022208, 17592186044416, 35184372088832, 70368744177664, 140737488355328, 281474976710656, 562949953421312, 1125899906842624, 2251799813685248, 4503599627370496, 9007199254740992, 18014398509481984, 36028797018963968, 72057594037927936, 144115188075855872] [256, 34359738368, 68719476736, 137438953600, 412316860416, 137438953474, 1236950581248, 2336462209024, 5085241278464, 8933531975680, 17592186044416, 35184372088960, 105553116266496, 175921860444160, 316659348799488, 562949953421312, 1125899906842752, 3377699720527872, 5629499534213120, 1125899906842626, 19140298416324608, 46161896180547584, 73183493944770560] (.take 0 (.take 1 (.take 2 (.sp 37 (.take 3 (.take 4 (.take 5 (.take 6 (.take 7 (.take 8 (.take 9 (.take 10 (.take 11 (.take 12 (.take 13 (.take 14 (.take 15 (.take 16 (.take 17 (.take 18 (.take 19 (.take 20 (.tail [.run, .run]))))))))))))))))))) (.take 3 (.take 4 (.take 5 (.take 6 (.take 7 (.take 8 (.take 9 (.take 10 (.sp 45 (.take 11 (.take 12 (.take 13 (.take 14 (.take 15 (.take 16 (.take 17 (.take 18 (.take 19 (.take 20 (.tail [.run, .run]))))))))))) (.take 11 (.eff 12 (.take 13 (.take 14 (.take 15 (.sp 50 (.take 16 (.take 17 (.take 18 (.take 19 (.take 20 (.tail [.run, .run])))))) (.take 16 (.take 19 (.take 20 (.eff 17 (.take 18 (.tail [.run, .run])))))))))))))))))))))))))) (.cond (.seq (.reg []) .leaf) .leaf))))) (.seq (.reg []) (.seq (.seq (.drw 13 true ⟨[0, 1, 2, 4, 12, 20, 36, 80, 128, 384, 640, 128, 2176, 5248, 8320], [0, 1, 2, 4, 12, 20, 36, 64, 128, 384, 640, 128, 2176, 5248, 8320]⟩ [147573952589676412928, 295147905179352825856, 590295810358705651712, 1180591620717411303424, 2361183241434822606848, 4722366482869645213696, 9444732965739290427392, 18889465931478580854784, 37778931862957161709568, 75557863725914323419136, 151115727451828646838272, 302231454903657293676544, 604462909807314587353088, 1208925819614629174706176, 2417851639229258349412352] [512, 147573952589676412928, 295147905179352825856, 590295810358705652224, 1770887431076116955136, 2951479051793528258560, 5312662293228350865408, 9444732965739290427392, 18889465931478580855296, 56668397794435742564352, 94447329657392904273920, 18889465931478580854816, 321120920835135874531328, 774468103190621815046144, 1227815285546107755560960] (.take 0 (.take 1 (.take 2 (.sp 69 (.take 3 (.take 4 (.take 5 (.take 6 (.take 7 (.take 8 (.take 9 (.take 10 (.take 11 (.take 12 (.tail [.run, .run]))))))))))) (.take 3 (.eff 4 (.take 5 (.take 6 (.take 7 (.sp 74 (.take 8 (.take 9 (.take 10 (.take 11 (.take 12 (.tail [.run, .run])))))) (.take 8 (.take 11 (.take 12 (.eff 9 (.take 10 (.tail [.run, .run]))))))))))))))))) (.cond (.seq (.reg []) .leaf) .leaf)) (.seq (.reg []) (.seq (.drw 23 true ⟨[0, 1, 0, 6, 10, 24, 32, 96, 160, 32, 672, 1056, 2336, 4128, 9216, 16384, 49152, 81920, 212992, 262144, 786432, 1048576, 1048576, 7340032, 9699328, 17055744, 33570816, 68157440, 134217728, 402653184, 1073741823], [0, 1, 0, 4, 10, 16, 32, 96, 160, 32, 544, 1056, 2336, 4128, 8192, 16384, 49152, 81920, 147456, 262144, 786432, 1048576, 1048576, 7340032, 9699328, 17055744, 33570816, 67108864, 134217728, 402653184, 536870912]⟩ [309485009821345068724781056, 618970019642690137449562112, 1237940039285380274899124224, 2475880078570760549798248448, 4951760157141521099596496896, 9903520314283042199192993792, 19807040628566084398385987584, 39614081257132168796771975168, 79228162514264337593543950336, 158456325028528675187087900672, 316912650057057350374175801344, 633825300114114700748351602688, 1267650600228229401496703205376, 2535301200456458802993406410752, 5070602400912917605986812821504, 10141204801825835211973625643008, 20282409603651670423947251286016, 40564819207303340847894502572032, 81129638414606681695789005144064, 162259276829213363391578010288128, 324518553658426726783156020576256, 649037107316853453566312041152512, 1298074214633706907132624082305024, 2596148429267413814265248164610048, 5192296858534827628530496329220096, 10384593717069655257060992658440192, 20769187434139310514121985316880384, 41538374868278621028243970633760768, 83076749736557242056487941267521536, 166153499473114484112975882535043072, 64] [8, 309485009821345068724781056, 8, 1237940039285380274899124224, 3094850098213450687247810560, 4951760157141521099596496896, 9903520314283042199192993800, 29710560942849126597578981376, 49517601571415210995964968960, 9903520314283042199192993800, 168359845342811717386280894464, 326816170371340392573368795136, 722956982942662080541088546816, 1277554120542512443695896199168, 2535301200456458802993406410752, 5070602400912917605986812821512, 15211807202738752817960438464512, 25353012004564588029934064107520, 45635421608216258453881315393536, 81129638414606681695789005146112, 243388915243820045087367015432192, 324518553658426726783156020577280, 324518553658426726783156020576264, 2271629875608987087482092144033792, 3001796621340447222744193190330368, 5278497099350347227832272147185664, 10389664319470568174666979471261696, 20769187434139310514121985316880384, 41538374868278621028243970633760768, 124615124604835863084731911901282304, 166153499473114484112975882535043072] (.take 0 (.take 2 (.eff 1 (.eff 3 (.take 4 (.take 5 (.sp 93 (.take 6 (.take 9 (.eff 7 (.take 8 (.eff 10 (.take 11 (.take 12 (.take 13 (.take 14 (.sp 102 (.take 15 (.eff 16 (.take 17 (.take 18 (.sp 106 (.take 19 (.take 20 (.take 21 (.take 22 (.tail [.run, .run, .run, .run, .run, .split 1, .run, .run]))))) (.take 19 (.take 20 (.sp 108 (.take 21 (.take 22 (.tail [.run, .run, .run, .run, .run, .split 1, .run, .run]))) (.take 21 (.take 22 (.tail [.run, .run, .run, .run, .run, .split 1, .run, .run]))))))))))) (.take 15 (.take 16 (.take 17 (.take 18 (.take 19 (.take 20 (.take 21 (.take 22 (.tail [.run, .run, .run, .run, .run, .split 1, .run, .run]))))))))))))))))))) (.take 6 (.take 7 (.take 8 (.take 9 (.take 10 (.take 11 (.take 12 (.take 13 (.take 14 (.take 15 (.take 16 (.take 17 (.take 18 (.take 19 (.take 20 (.take 21 (.take 22 (.tail [.run, .run, .run, .run, .run, .split 1, .run, .run])))))))))))))))))))))))))) .leaf))))))))
theorem W.law12_AddrBytes_eq (a : Array Value) (b : Sl) (c : Array Value) (w : World) (Q : Value → World → Prop) : W.law12_AddrBytes a b c w Q = DF Tryd.prog tk A.law12_AddrBytes Tryd.f7 [.agg a, .slice b.a b.len b.cap, .agg c] w Q := by kernel_rfl
theorem W.law12_AddrBytes_ok (a : Array Value) (b : Sl) (c : Array Value) (w : World) (Q : Value → World → Prop) (h : W.law12_AddrBytes a b c w Q) : Calls Tryd.prog F.law12_AddrBytes #[.agg a, .slice b.a b.len b.cap, .agg c] w fun e w1 => ∃ v, e = .returned v ∧ Q v w1 :=
  calls_of_DF hmix Tryd.func7 (by kernel_rfl) (Eq.mp (W.law12_AddrBytes_eq a b c w Q) h)

/-- stanchion/stanchionlaw12.AddrIn -/
def W.law12_AddrIn (a : Array Value) (p : Array Value) (w : World) (Q : Value → World → Prop) : Prop :=
  Nx (w.alloc (.cells a Ty.api_Addr)) fun w1 => Nx (w1.alloc (.cells p Ty.api_Prefix)) fun w2 =>
  ∃ l3 : List Value, rdCells w2 ⟨w.heap.size, 0, none⟩ 0 17 = some l3 ∧ ∃ n4 : Int, w2.cell? (Addr.add ⟨w1.heap.size, 0, none⟩ 17) = some (.int .i64 n4) ∧
  Calls Tryd.prog F.ref12_Mask #[.agg l3.toArray, .int .i64 n4] w2 fun e6 w5 =>
  ∃ c7 : Array Value, ∃ b8 : Bool, e6 = .returned (.tuple #[.agg c7, .bool b8]) ∧
  Nx (
    w5.alloc (
      .cells #[.bool false, .int .u8 0, .int .u8 0, .int .u8 0, .int .u8 0, .int .u8 0, .int .u8 0, .int .u8 0, .int .u8 0, .int .u8 0, .int .u8 0, .int .u8 0, .int .u8 0, .int .u8 0, .int .u8 0, .int .u8 0, .int .u8 0, .int .i64 0] Ty.api_Prefix)
    )
  fun w9 => StoreOk w9 ⟨w5.heap.size, 0, none⟩ (Array.toList c7) ∧ Array.size c7 = 18 ∧
  Nx (setCells w9 ⟨w5.heap.size, 0, none⟩ 0 (Array.toList c7)) fun w10 => ∃ l11 : List Value, rdCells w10 ⟨w.heap.size, 0, none⟩ 0 17 = some l11 ∧
  ∃ l12 : List Value, rdCells w10 ⟨w1.heap.size, 0, none⟩ 0 18 = some l12 ∧
  Calls Tryd.prog F.addr_In #[.agg l11.toArray, .agg l12.toArray] w10 fun e14 w13 =>
  ∃ b15 : Bool, e14 = .returned (.bool b15) ∧ Jn (
    fun k16 : Bool → World → Prop => (
      b8 = true → ∃ l17 : List Value, rdCells w13 ⟨w5.heap.size, 0, none⟩ 0 18 = some l17 ∧
      ∃ l18 : List Value, rdCells w13 ⟨w1.heap.size, 0, none⟩ 0 18 = some l18 ∧
      ∃ b19 : Bool, AggEq Tryd.prog Ty.api_Prefix l17.toArray l18.toArray b19 ∧
      k16 b19 w13)
    ∧ (b8 = false → k16 false w13))
  (
    fun (b20 : Bool) (w21 : World) => Jn (
      fun k22 : Bool → World → Prop => (
        (b15 == b20) = true → Calls Tryd.prog F.law12_lives #[] w21 fun e24 w23 =>
        ∃ b25 : Bool, e24 = .returned (.bool b25) ∧ k22 b25 w23)
      ∧ ((b15 == b20) = false → k22 false w21))
    (fun (b26 : Bool) (w27 : World) => Q (.bool b26) w27))
def A.law12_AddrIn : AT := (.seq (.reg []) (.seq (.reg []) (.seq (.reg [.run, .run, .run, .run, .run, .split 3, .run, .run, .run, .run, .run, .split 1]) .leaf)))
theorem W.law12_AddrIn_eq (a : Array Value) (p : Array Value) (w : World) (Q : Value → World → Prop) : W.law12_AddrIn a p w Q = DF Tryd.prog tk A.law12_AddrIn Tryd.f8 [.agg a, .agg p] w Q := by kernel_rfl
theorem W.law12_AddrIn_ok (a : Array Value) (p : Array Value) (w : World) (Q : Value → World → Prop) (h : W.law12_AddrIn a p w Q) : Calls Tryd.prog F.law12_AddrIn #[.agg a, .agg p] w fun e w1 => ∃ v, e = .returned v ∧ Q v w1 :=
  calls_of_DF hmix Tryd.func8 (by kernel_rfl) (Eq.mp (W.law12_AddrIn_eq a p w Q) h)

/-- stanchion/stanchionlaw12.AddrMasks -/
def W.law12_AddrMasks (a : Array Value) (bits : Int) (fewer : Int) (w : World) (Q : Value → World → Prop) : Prop :=
  Nx (w.alloc (.cells a Ty.api_Addr)) fun w1 => ∃ l2 : List Value, rdCells w1 ⟨w.heap.size, 0, none⟩ 0 17 = some l2 ∧
  Calls Tryd.prog F.addr_Mask #[.agg l2.toArray, .int .i64 bits] w1 fun e4 w3 =>
  ∃ c5 : Array Value, ∃ b6 : Bool, e4 = .returned (.tuple #[.agg c5, .bool b6]) ∧
  Nx (
    w3.alloc (
      .cells #[.bool false, .int .u8 0, .int .u8 0, .int .u8 0, .int .u8 0, .int .u8 0, .int .u8 0, .int .u8 0, .int .u8 0, .int .u8 0, .int .u8 0, .int .u8 0, .int .u8 0, .int .u8 0, .int .u8 0, .int .u8 0, .int .u8 0, .int .i64 0] Ty.api_Prefix)
    )
  fun w7 => StoreOk w7 ⟨w3.heap.size, 0, none⟩ (Array.toList c5) ∧ Array.size c5 = 18 ∧
  Nx (setCells w7 ⟨w3.heap.size, 0, none⟩ 0 (Array.toList c5)) fun w8 => ∃ l9 : List Value, rdCells w8 ⟨w.heap.size, 0, none⟩ 0 17 = some l9 ∧
  Calls Tryd.prog F.ref12_Mask #[.agg l9.toArray, .int .i64 bits] w8 fun e11 w10 =>
  ∃ c12 : Array Value, ∃ b13 : Bool, e11 = .returned (.tuple #[.agg c12, .bool b13]) ∧
  Nx (
    w10.alloc (
      .cells #[.bool false, .int .u8 0, .int .u8 0, .int .u8 0, .int .u8 0, .int .u8 0, .int .u8 0, .int .u8 0, .int .u8 0, .int .u8 0, .int .u8 0, .int .u8 0, .int .u8 0, .int .u8 0, .int .u8 0, .int .u8 0, .int .u8 0, .int .i64 0] Ty.api_Prefix)
    )
  fun w14 => StoreOk w14 ⟨w10.heap.size, 0, none⟩ (Array.toList c12) ∧ Array.size c12 = 18 ∧
  Nx (setCells w14 ⟨w10.heap.size, 0, none⟩ 0 (Array.toList c12)) fun w15 =>
  ∃ l16 : List Value, rdCells w15 ⟨w3.heap.size, 0, none⟩ 0 18 = some l16 ∧
  ∃ l17 : List Value, rdCells w15 ⟨w10.heap.size, 0, none⟩ 0 18 = some l17 ∧
  ∃ b18 : Bool, AggEq Tryd.prog Ty.api_Prefix l16.toArray l17.toArray b18 ∧
  (((!b18) || (!(b6 == b13))) = true → Q (.bool false) w15) ∧ (
    ((!b18) || (!(b6 == b13))) = false → (
      (!b6) = true → ∃ l19 : List Value, rdCells w15 ⟨w.heap.size, 0, none⟩ 0 17 = some l19 ∧
      ∃ l20 : List Value, rdCells w15 ⟨w.heap.size, 0, none⟩ 0 17 = some l20 ∧ ∃ c21 : Array Value, Sem.run Tryd.prog (Instr.build Ty.api_Prefix #[(0, .agg l20.toArray), (1, .int .i64 bits)]) w15 = .ok (.agg c21) w15 ∧
      Calls Tryd.prog F.addr_In #[.agg l19.toArray, .agg c21] w15 fun e23 w22 =>
      ∃ b24 : Bool, e23 = .returned (.bool b24) ∧ Jn (
        fun k25 : Bool → World → Prop => (
          (!b24) = true → Calls Tryd.prog F.law12_lives #[] w22 fun e27 w26 => ∃ b28 : Bool, e27 = .returned (.bool b28) ∧
          k25 b28 w26)
        ∧ ((!b24) = false → k25 false w22))
      (fun (b29 : Bool) (w30 : World) => Q (.bool b29) w30))
    ∧ (
      (!b6) = false → ∃ l31 : List Value, rdCells w15 ⟨w.heap.size, 0, none⟩ 0 17 = some l31 ∧
      Calls Tryd.prog F.addr_Mask #[.agg l31.toArray, .int .i64 fewer] w15 fun e33 w32 =>
      ∃ c34 : Array Value, ∃ b35 : Bool, e33 = .returned (.tuple #[.agg c34, .bool b35]) ∧
      Nx (
        w32.alloc (
          .cells #[.bool false, .int .u8 0, .int .u8 0, .int .u8 0, .int .u8 0, .int .u8 0, .int .u8 0, .int .u8 0, .int .u8 0, .int .u8 0, .int .u8 0, .int .u8 0, .int .u8 0, .int .u8 0, .int .u8 0, .int .u8 0, .int .u8 0, .int .i64 0] Ty.api_Prefix)
        )
      fun w36 => StoreOk w36 ⟨w32.heap.size, 0, none⟩ (Array.toList c34) ∧ Array.size c34 = 18 ∧
      Nx (setCells w36 ⟨w32.heap.size, 0, none⟩ 0 (Array.toList c34)) fun w37 =>
      ∃ l38 : List Value, rdCells w37 ⟨w.heap.size, 0, none⟩ 0 17 = some l38 ∧ ∃ l39 : List Value, rdCells w37 ⟨w3.heap.size, 0, none⟩ 0 18 = some l39 ∧
      Calls Tryd.prog F.addr_In #[.agg l38.toArray, .agg l39.toArray] w37 fun e41 w40 =>
      ∃ b42 : Bool, e41 = .returned (.bool b42) ∧ Jn (
        fun k43 : Bool → World → Prop => (
          b42 = true → Jn (
            fun k44 : Bool → World → Prop => (((decide ((fewer : Int) < 0)) || (decide ((fewer : Int) > bits))) = true → k44 true w40) ∧
            (
              ((decide ((fewer : Int) < 0)) || (decide ((fewer : Int) > bits))) = false →
              Jn (
                fun k45 : Bool → World → Prop => (
                  b35 = true → ∃ l46 : List Value, rdCells w40 ⟨w3.heap.size, 0, none⟩ 0 17 = some l46 ∧
                  ∃ l47 : List Value, rdCells w40 ⟨w32.heap.size, 0, none⟩ 0 18 = some l47 ∧
                  Calls Tryd.prog F.addr_In #[.agg l46.toArray, .agg l47.toArray] w40 fun e49 w48 =>
                  ∃ b50 : Bool, e49 = .returned (.bool b50) ∧ k45 b50 w48)
                ∧ (b35 = false → k45 false w40))
              (fun (b51 : Bool) (w52 : World) => k44 b51 w52))
            )
          (fun (b53 : Bool) (w54 : World) => k43 b53 w54))
        ∧ (b42 = false → k43 false w40))
      (
        fun (b55 : Bool) (w56 : World) => Jn (
          fun k57 : Bool → World → Prop => (
            b55 = true → Calls Tryd.prog F.law12_lives #[] w56 fun e59 w58 => ∃ b60 : Bool, e59 = .returned (.bool b60) ∧
            k57 b60 w58)
          ∧ (b55 = false → k57 false w56))
        (fun (b61 : Bool) (w62 : World) => Q (.bool b61) w62))
      )
    )
def A.law12_AddrMasks : AT := (.seq (.reg []) (.seq (.reg []) (.seq (.reg []) (.seq (.seq (.reg [.run, .run, .run, .run, .pure 3]) (.cond (.seq (.reg []) .leaf) .leaf)) (.seq (.seq (.reg []) (.cond (.seq (.reg [.run, .run, .run, .run, .run, .run, .run, .split 1]) .leaf) .leaf)) (.seq (.reg []) (.seq (.reg [.run, .run, .run, .run, .split 16, .run, .run, .pure 3, .run, .run, .run, .run, .split 7, .run, .split 4, .run, .run, .run, .run, .run, .run, .run, .split 1]) .leaf)))))))
theorem W.law12_AddrMasks_eq (a : Array Value) (bits : Int) (fewer : Int) (w : World) (Q : Value → World → Prop) : W.law12_AddrMasks a bits fewer w Q = DF Tryd.prog tk A.law12_AddrMasks Tryd.f9 [.agg a, .int .i64 bits, .int .i64 fewer] w Q := by kernel_rfl
theorem W.law12_AddrMasks_ok (a : Array Value) (bits : Int) (fewer : Int) (w : World) (Q : Value → World → Prop) (h : W.law12_AddrMasks a bits fewer w Q) : Calls Tryd.prog F.law12_AddrMasks #[.agg a, .int .i64 bits, .int .i64 fewer] w fun e w1 => ∃ v, e = .returned v ∧ Q v w1 :=
  calls_of_DF hmix Tryd.func9 (by kernel_rfl) (Eq.mp (W.law12_AddrMasks_eq a bits fewer w Q) h)

/-- stanchion/stanchionlaw12.AddrParses -/
def W.law12_AddrParses (s : ByteArray) (w : World) (Q : Value → World → Prop) : Prop :=
  Jn (
    fun k1 : ByteArray → World → Prop => (
      (decide ((((ByteArray.size s : Nat) : Int) : Int) > 60)) = true → ((0 : Int) ≤ 60 ∧ 60 ≤ (((ByteArray.size s) : Nat) : Int)) ∧
      k1 (ByteArray.extract s 0 (Int.toNat 60)) w)
    ∧ ((decide ((((ByteArray.size s : Nat) : Int) : Int) > 60)) = false → k1 s w))
  (
    fun (s2 : ByteArray) (w3 : World) => Calls Tryd.prog F.addr_Parse #[.string s2] w3 fun e5 w4 =>
    ∃ c6 : Array Value, ∃ b7 : Bool, e5 = .returned (.tuple #[.agg c6, .bool b7]) ∧
    Nx (
      w4.alloc (
        .cells #[.bool false, .int .u8 0, .int .u8 0, .int .u8 0, .int .u8 0, .int .u8 0, .int .u8 0, .int .u8 0, .int .u8 0, .int .u8 0, .int .u8 0, .int .u8 0, .int .u8 0, .int .u8 0, .int .u8 0, .int .u8 0, .int .u8 0] Ty.api_Addr)
      )
    fun w8 => StoreOk w8 ⟨w4.heap.size, 0, none⟩ (Array.toList c6) ∧ Array.size c6 = 17 ∧
    Nx (setCells w8 ⟨w4.heap.size, 0, none⟩ 0 (Array.toList c6)) fun w9 => Calls Tryd.prog F.ref12_Parse #[.string s2] w9 fun e11 w10 =>
    ∃ c12 : Array Value, ∃ b13 : Bool, e11 = .returned (.tuple #[.agg c12, .bool b13]) ∧
    Nx (
      w10.alloc (
        .cells #[.bool false, .int .u8 0, .int .u8 0, .int .u8 0, .int .u8 0, .int .u8 0, .int .u8 0, .int .u8 0, .int .u8 0, .int .u8 0, .int .u8 0, .int .u8 0, .int .u8 0, .int .u8 0, .int .u8 0, .int .u8 0, .int .u8 0] Ty.api_Addr)
      )
    fun w14 => StoreOk w14 ⟨w10.heap.size, 0, none⟩ (Array.toList c12) ∧ Array.size c12 = 17 ∧
    Nx (setCells w14 ⟨w10.heap.size, 0, none⟩ 0 (Array.toList c12)) fun w15 =>
    Calls Tryd.prog F.addr_ParsePrefix #[.string s2] w15 fun e17 w16 => ∃ c18 : Array Value, ∃ b19 : Bool, e17 = .returned (.tuple #[.agg c18, .bool b19]) ∧
    Nx (
      w16.alloc (
        .cells #[.bool false, .int .u8 0, .int .u8 0, .int .u8 0, .int .u8 0, .int .u8 0, .int .u8 0, .int .u8 0, .int .u8 0, .int .u8 0, .int .u8 0, .int .u8 0, .int .u8 0, .int .u8 0, .int .u8 0, .int .u8 0, .int .u8 0, .int .i64 0] Ty.api_Prefix)
      )
    fun w20 => StoreOk w20 ⟨w16.heap.size, 0, none⟩ (Array.toList c18) ∧ Array.size c18 = 18 ∧
    Nx (setCells w20 ⟨w16.heap.size, 0, none⟩ 0 (Array.toList c18)) fun w21 =>
    Calls Tryd.prog F.ref12_ParsePrefix #[.string s2] w21 fun e23 w22 => ∃ c24 : Array Value, ∃ b25 : Bool, e23 = .returned (.tuple #[.agg c24, .bool b25]) ∧
    Nx (
      w22.alloc (
        .cells #[.bool false, .int .u8 0, .int .u8 0, .int .u8 0, .int .u8 0, .int .u8 0, .int .u8 0, .int .u8 0, .int .u8 0, .int .u8 0, .int .u8 0, .int .u8 0, .int .u8 0, .int .u8 0, .int .u8 0, .int .u8 0, .int .u8 0, .int .i64 0] Ty.api_Prefix)
      )
    fun w26 => StoreOk w26 ⟨w22.heap.size, 0, none⟩ (Array.toList c24) ∧ Array.size c24 = 18 ∧
    Nx (setCells w26 ⟨w22.heap.size, 0, none⟩ 0 (Array.toList c24)) fun w27 =>
    ∃ l28 : List Value, rdCells w27 ⟨w4.heap.size, 0, none⟩ 0 17 = some l28 ∧
    ∃ l29 : List Value, rdCells w27 ⟨w10.heap.size, 0, none⟩ 0 17 = some l29 ∧
    ∃ b30 : Bool, AggEq Tryd.prog Ty.api_Addr l28.toArray l29.toArray b30 ∧ Jn (
      fun k31 : Bool → World → Prop => (
        (b30 && (b7 == b13)) = true → ∃ l32 : List Value, rdCells w27 ⟨w16.heap.size, 0, none⟩ 0 18 = some l32 ∧
        ∃ l33 : List Value, rdCells w27 ⟨w22.heap.size, 0, none⟩ 0 18 = some l33 ∧
        ∃ b34 : Bool, AggEq Tryd.prog Ty.api_Prefix l32.toArray l33.toArray b34 ∧
        k31 b34 w27)
      ∧ ((b30 && (b7 == b13)) = false → k31 false w27))
    (
      fun (b35 : Bool) (w36 : World) => Jn (
        fun k37 : Bool → World → Prop => (
          (b35 && (b19 == b25)) = true → Calls Tryd.prog F.law12_lives #[] w36 fun e39 w38 =>
          ∃ b40 : Bool, e39 = .returned (.bool b40) ∧ k37 b40 w38)
        ∧ ((b35 && (b19 == b25)) = false → k37 false w36))
      (fun (b41 : Bool) (w42 : World) => Q (.bool b41) w42))
    )
def A.law12_AddrParses : AT := (.seq (.reg []) (.seq (.jk [(0, .str)] [] (.seq (.reg []) (.cond (.reg []) .leaf))) (.seq (.reg []) (.seq (.reg []) (.seq (.reg []) (.seq (.reg []) (.seq (.reg [.run, .run, .run, .run, .pure 3, .run, .run, .run, .run, .split 3, .run, .run, .run, .run, .pure 3, .run, .run, .run, .run, .split 1]) .leaf)))))))
theorem W.law12_AddrParses_eq (s : ByteArray) (w : World) (Q : Value → World → Prop) : W.law12_AddrParses s w Q = DF Tryd.prog tk A.law12_AddrParses Tryd.f10 [.string s] w Q := by kernel_rfl
theorem W.law12_AddrParses_ok (s : ByteArray) (w : World) (Q : Value → World → Prop) (h : W.law12_AddrParses s w Q) : Calls Tryd.prog F.law12_AddrParses #[.string s] w fun e w1 => ∃ v, e = .returned v ∧ Q v w1 :=
  calls_of_DF hmix Tryd.func10 (by kernel_rfl) (Eq.mp (W.law12_AddrParses_eq s w Q) h)

/-- stanchion/stanchionlaw12.AddrShows -/
def W.law12_AddrShows (a : Array Value) (p : Array Value) (w : World) (Q : Value → World → Prop) : Prop :=
  Nx (w.alloc (.cells a Ty.api_Addr)) fun w1 => Nx (w1.alloc (.cells p Ty.api_Prefix)) fun w2 =>
  Nx (w2.drew) fun w3 => ∃ W4 : Nat → Prop, ¬ W4 (⟨w.heap.size, 0, none⟩ : Addr).block ∧
  ∃ l5 : List Value, rdCells w3 ⟨w.heap.size, 0, none⟩ 0 17 = some l5 ∧ ¬ W4 (⟨w1.heap.size, 0, none⟩ : Addr).block ∧
  ∃ l6 : List Value, rdCells w3 ⟨w1.heap.size, 0, none⟩ 0 18 = some l6 ∧ Calls Tryd.prog F.addr_Show #[.agg l5.toArray] w3 fun e8 w7 =>
  ∃ s9 : ByteArray, e8 = .returned (.string s9) ∧ Chg W4 w3 w7 ∧ Calls Tryd.prog F.addr_ShowPrefix #[.agg l6.toArray] w7 fun e11 w10 =>
  ∃ s12 : ByteArray, e11 = .returned (.string s12) ∧ ∃ l13 : List Value, rdCells w10 ⟨w.heap.size, 0, none⟩ 0 17 = some l13 ∧
  Calls Tryd.prog F.ref12_Show #[.agg l13.toArray] w10 fun e15 w14 => ∃ s16 : ByteArray, e15 = .returned (.string s16) ∧
  Jn (
    fun k17 : Bool → World → Prop => ((!(ByteArray.toList s9 == ByteArray.toList s16)) = true → k17 true w14) ∧
    (
      (!(ByteArray.toList s9 == ByteArray.toList s16)) = false → ∃ l18 : List Value, rdCells w14 ⟨w1.heap.size, 0, none⟩ 0 18 = some l18 ∧
      Calls Tryd.prog F.ref12_ShowPrefix #[.agg l18.toArray] w14 fun e20 w19 => ∃ s21 : ByteArray, e20 = .returned (.string s21) ∧
      k17 (!(ByteArray.toList s12 == ByteArray.toList s21)) w19)
    )
  (
    fun (b22 : Bool) (w23 : World) => (b22 = true → Q (.bool false) w23) ∧ (
      b22 = false → Calls Tryd.prog F.addr_Parse #[.string s9] w23 fun e25 w24 =>
      ∃ c26 : Array Value, ∃ b27 : Bool, e25 = .returned (.tuple #[.agg c26, .bool b27]) ∧
      Nx (
        w24.alloc (
          .cells #[.bool false, .int .u8 0, .int .u8 0, .int .u8 0, .int .u8 0, .int .u8 0, .int .u8 0, .int .u8 0, .int .u8 0, .int .u8 0, .int .u8 0, .int .u8 0, .int .u8 0, .int .u8 0, .int .u8 0, .int .u8 0, .int .u8 0] Ty.api_Addr)
        )
      fun w28 => StoreOk w28 ⟨w24.heap.size, 0, none⟩ (Array.toList c26) ∧ Array.size c26 = 17 ∧
      Nx (setCells w28 ⟨w24.heap.size, 0, none⟩ 0 (Array.toList c26)) fun w29 =>
      Calls Tryd.prog F.addr_ParsePrefix #[.string s12] w29 fun e31 w30 => ∃ c32 : Array Value, ∃ b33 : Bool, e31 = .returned (.tuple #[.agg c32, .bool b33]) ∧
      Nx (
        w30.alloc (
          .cells #[.bool false, .int .u8 0, .int .u8 0, .int .u8 0, .int .u8 0, .int .u8 0, .int .u8 0, .int .u8 0, .int .u8 0, .int .u8 0, .int .u8 0, .int .u8 0, .int .u8 0, .int .u8 0, .int .u8 0, .int .u8 0, .int .u8 0, .int .i64 0] Ty.api_Prefix)
        )
      fun w34 => StoreOk w34 ⟨w30.heap.size, 0, none⟩ (Array.toList c32) ∧ Array.size c32 = 18 ∧
      Nx (setCells w34 ⟨w30.heap.size, 0, none⟩ 0 (Array.toList c32)) fun w35 =>
      Jn (
        fun k36 : Bool → World → Prop => (((ByteArray.toList s9 == ByteArray.toList (ByteArray.mk #[])) && (!b27)) = true → k36 true w35) ∧
        (
          ((ByteArray.toList s9 == ByteArray.toList (ByteArray.mk #[])) && (!b27)) = false →
          Jn (
            fun k37 : Bool → World → Prop => (
              ((!(ByteArray.toList s9 == ByteArray.toList (ByteArray.mk #[]))) && b27) = true →
              ∃ l38 : List Value, rdCells w35 ⟨w24.heap.size, 0, none⟩ 0 17 = some l38 ∧
              ∃ l39 : List Value, rdCells w35 ⟨w.heap.size, 0, none⟩ 0 17 = some l39 ∧ ∃ b40 : Bool, AggEq Tryd.prog Ty.api_Addr l38.toArray l39.toArray b40 ∧
              k37 b40 w35)
            ∧ (((!(ByteArray.toList s9 == ByteArray.toList (ByteArray.mk #[]))) && b27) = false → k37 false w35))
          (fun (b41 : Bool) (w42 : World) => k36 b41 w42))
        )
      (
        fun (b43 : Bool) (w44 : World) => Jn (
          fun k45 : Bool → World → Prop => (
            b43 = true → Jn (
              fun k46 : Bool → World → Prop => (((ByteArray.toList s12 == ByteArray.toList (ByteArray.mk #[])) && (!b33)) = true → k46 true w44) ∧
              (
                ((ByteArray.toList s12 == ByteArray.toList (ByteArray.mk #[])) && (!b33)) = false →
                Jn (
                  fun k47 : Bool → World → Prop => (
                    ((!(ByteArray.toList s12 == ByteArray.toList (ByteArray.mk #[]))) && b33) = true →
                    ∃ l48 : List Value, rdCells w44 ⟨w30.heap.size, 0, none⟩ 0 18 = some l48 ∧
                    ∃ l49 : List Value, rdCells w44 ⟨w1.heap.size, 0, none⟩ 0 18 = some l49 ∧
                    ∃ b50 : Bool, AggEq Tryd.prog Ty.api_Prefix l48.toArray l49.toArray b50 ∧
                    k47 b50 w44)
                  ∧ (((!(ByteArray.toList s12 == ByteArray.toList (ByteArray.mk #[]))) && b33) = false → k47 false w44))
                (fun (b51 : Bool) (w52 : World) => k46 b51 w52))
              )
            (fun (b53 : Bool) (w54 : World) => k45 b53 w54))
          ∧ (b43 = false → k45 false w44))
        (
          fun (b55 : Bool) (w56 : World) => Jn (
            fun k57 : Bool → World → Prop => (
              b55 = true → Calls Tryd.prog F.law12_lives #[] w56 fun e59 w58 => ∃ b60 : Bool, e59 = .returned (.bool b60) ∧
              k57 b60 w58)
            ∧ (b55 = false → k57 false w56))
          (fun (b61 : Bool) (w62 : World) => Q (.bool b61) w62))
        )
      )
    )
def A.law12_AddrShows : AT := (.seq (.reg []) (.seq (.drw 3 true ⟨[0, 1, 0, 6, 11, 31], [0, 1, 0, 4, 2, 8]⟩ [2048, 4096, 8192, 16384, 32, 64] [4, 2048, 8, 8192, 4096, 16384] (.take 0 (.take 2 (.eff 1 (.tail [.run, .run, .run]))))) (.seq (.seq (.reg [.run, .run, .run, .run, .run, .split 4]) (.cond (.seq (.reg []) .leaf) .leaf)) (.seq (.reg []) (.seq (.reg []) (.seq (.reg [.run, .run, .run, .pure 2, .run, .run, .run, .split 10, .run, .run, .pure 1, .run, .run, .split 3, .run, .run, .run, .run, .run, .split 18, .run, .run, .pure 2, .run, .run, .run, .split 10, .run, .run, .pure 1, .run, .run, .split 3, .run, .run, .run, .run, .run, .run, .split 1]) .leaf))))))
theorem W.law12_AddrShows_eq (a : Array Value) (p : Array Value) (w : World) (Q : Value → World → Prop) : W.law12_AddrShows a p w Q = DF Tryd.prog tk A.law12_AddrShows Tryd.f11 [.agg a, .agg p] w Q := by kernel_rfl
theorem W.law12_AddrShows_ok (a : Array Value) (p : Array Value) (w : World) (Q : Value → World → Prop) (h : W.law12_AddrShows a p w Q) : Calls Tryd.prog F.law12_AddrShows #[.agg a, .agg p] w fun e w1 => ∃ v, e = .returned v ∧ Q v w1 :=
  calls_of_DF hmix Tryd.func11 (by kernel_rfl) (Eq.mp (W.law12_AddrShows_eq a p w Q) h)

/-- stanchion/stanchionlaw32.Few -/
def W.law32_Few (l : Sl) (w : World) (Q : Value → World → Prop) : Prop :=
  Jn (
    fun k1 : Sl → World → Prop => (
      (decide ((((l.len : Nat) : Int) : Int) > 30)) = true → ((0 : Int) ≤ 30 ∧ 30 ≤ ((l.cap : Nat) : Int)) ∧
      k1 ⟨(cutA l.a 40 0 l.cap), ((Int.toNat 30) - 0), (l.cap - 0)⟩ w)
    ∧ ((decide ((((l.len : Nat) : Int) : Int) > 30)) = false → k1 l w))
  (
    fun (s2 : Sl) (w3 : World) => ∃ s4 : Sl, ∃ w5 : World, Sem.run Tryd.prog (Instr.buildSlice Ty.Sl_api_Rule 0 #[]) w3 = .ok (.slice s4.a s4.len s4.cap) w5 ∧
    ∃ s6 : Sl, ∃ w7 : World, Sem.run Tryd.prog (
      Builtin.append_ #[Ty.Sl_api_Rule, Ty.Sl_api_Rule] Ty.Sl_api_Rule #[.slice s4.a s4.len s4.cap, .slice s2.a s2.len s2.cap])
    w5 = .ok (.slice s6.a s6.len s6.cap) w7 ∧ Q (.slice s6.a s6.len s6.cap) w7)
def A.law32_Few : AT := (.seq (.reg []) (.seq (.jk [(0, .slice)] [] (.seq (.reg []) (.cond (.reg []) .leaf))) (.seq (.reg []) .leaf)))
theorem W.law32_Few_eq (l : Sl) (w : World) (Q : Value → World → Prop) : W.law32_Few l w Q = DF Tryd.prog tk A.law32_Few Tryd.f12 [.slice l.a l.len l.cap] w Q := by kernel_rfl
theorem W.law32_Few_ok (l : Sl) (w : World) (Q : Value → World → Prop) (h : W.law32_Few l w Q) : Calls Tryd.prog F.law32_Few #[.slice l.a l.len l.cap] w fun e w1 => ∃ v, e = .returned v ∧ Q v w1 :=
  calls_of_DF hmix Tryd.func12 (by kernel_rfl) (Eq.mp (W.law32_Few_eq l w Q) h)

/-- stanchion/stanchionlaw32.lives -/
def W.law32_lives  (w : World) (Q : Value → World → Prop) : Prop :=
  ∃ c1 : Array Value, Sem.run Tryd.prog (Instr.build Ty.api_Rule #[(4, .int .u16 65535)]) w = .ok (.agg c1) w ∧
  Nx (
    w.alloc (
      .cells #[.bool false, .int .u8 0, .int .u8 0, .int .u8 0, .int .u8 0, .int .u8 0, .int .u8 0, .int .u8 0, .int .u8 0, .int .u8 0, .int .u8 0, .int .u8 0, .int .u8 0, .int .u8 0, .int .u8 0, .int .u8 0, .int .u8 0, .int .i64 0, .bool false, .int .u8 0, .int .u8 0, .int .u8 0, .int .u8 0, .int .u8 0, .int .u8 0, .int .u8 0, .int .u8 0, .int .u8 0, .int .u8 0, .int .u8 0, .int .u8 0, .int .u8 0, .int .u8 0, .int .u8 0, .int .u8 0, .int .i64 0, .int .u8 0, .int .u16 0, .int .u16 0, .bool false] Ty.api_Rule)
    )
  fun w2 => StoreOk w2 ⟨w.heap.size, 0, none⟩ (Array.toList c1) ∧ Array.size c1 = 40 ∧
  Nx (setCells w2 ⟨w.heap.size, 0, none⟩ 0 (Array.toList c1)) fun w3 => ∃ l4 : List Value, rdCells w3 ⟨w.heap.size, 0, none⟩ 0 40 = some l4 ∧
  ∃ s5 : Sl, ∃ w6 : World, Sem.run Tryd.prog (Instr.buildSlice Ty.Sl_api_Rule 1 #[(0, .agg l4.toArray)]) w3 = .ok (.slice s5.a s5.len s5.cap) w6 ∧
  ∃ c7 : Array Value, Sem.run Tryd.prog (Instr.build Ty.api_Flow #[(4, .int .u8 6), (3, .int .u16 5)]) w6 = .ok (.agg c7) w6 ∧
  Calls Tryd.prog F.acl_First #[.slice s5.a s5.len s5.cap, .agg c7] w6 fun e9 w8 =>
  ∃ n10 : Int, ∃ b11 : Bool, e9 = .returned (.tuple #[.int .i64 n10, .bool b11]) ∧
  ∃ l12 : List Value, rdCells w8 ⟨w.heap.size, 0, none⟩ 0 40 = some l12 ∧ Calls Tryd.prog F.acl_Good #[.agg l12.toArray] w8 fun e14 w13 =>
  ∃ b15 : Bool, e14 = .returned (.bool b15) ∧ Jn (
    fun k16 : Bool → World → Prop => (
      ((b15 && ((n10 : Int) == 0)) && (!b11)) = true → ∃ l17 : List Value, rdCells w13 ⟨w.heap.size, 0, none⟩ 0 40 = some l17 ∧
      Calls Tryd.prog F.acl_Show #[.agg l17.toArray] w13 fun e19 w18 => ∃ s20 : ByteArray, e19 = .returned (.string s20) ∧
      k16 (
        ByteArray.toList s20 == ByteArray.toList (
          ByteArray.mk #[100, 101, 110, 121, 32, 97, 110, 121, 32, 48, 46, 48, 46, 48, 46, 48, 47, 48, 32, 48, 46, 48, 46, 48, 46, 48, 47, 48, 32, 48, 45, 54, 53, 53, 51, 53])
        )
      w18)
    ∧ (((b15 && ((n10 : Int) == 0)) && (!b11)) = false → k16 false w13))
  (fun (b21 : Bool) (w22 : World) => Q (.bool b21) w22)
def A.law32_lives : AT := (.seq (.reg []) (.seq (.reg []) (.seq (.reg []) (.seq (.reg [.run, .run, .run, .pure 2, .run, .run, .run, .pure 2, .run, .run, .run, .split 3]) .leaf))))
theorem W.law32_lives_eq  (w : World) (Q : Value → World → Prop) : W.law32_lives  w Q = DF Tryd.prog tk A.law32_lives Tryd.f19 [] w Q := by kernel_rfl
theorem W.law32_lives_ok  (w : World) (Q : Value → World → Prop) (h : W.law32_lives  w Q) : Calls Tryd.prog F.law32_lives #[] w fun e w1 => ∃ v, e = .returned v ∧ Q v w1 :=
  calls_of_DF hmix Tryd.func19 (by kernel_rfl) (Eq.mp (W.law32_lives_eq  w Q) h)

/-- stanchion/stanchionlaw01.Few -/
def W.law01_Few (b : Sl) (most : Int) (w : World) (Q : Value → World → Prop) : Prop :=
  Jn (
    fun k1 : Sl → World → Prop => (
      (decide ((((b.len : Nat) : Int) : Int) > most)) = true → ((0 : Int) ≤ most ∧ most ≤ ((b.cap : Nat) : Int)) ∧
      k1 ⟨(cutA b.a 1 0 b.cap), ((Int.toNat most) - 0), (b.cap - 0)⟩ w)
    ∧ ((decide ((((b.len : Nat) : Int) : Int) > most)) = false → k1 b w))
  (
    fun (s2 : Sl) (w3 : World) => Nx (w3.alloc (.cells #[] Ty.uint8)) fun w4 =>
    ∃ s5 : Sl, ∃ w6 : World, Sem.run Tryd.prog (
      Builtin.append_ #[Ty.Sl_uint8, Ty.Sl_uint8] Ty.Sl_uint8 #[.slice (some ⟨w3.heap.size, 0, none⟩) 0 0, .slice s2.a s2.len s2.cap])
    w4 = .ok (.slice s5.a s5.len s5.cap) w6 ∧ Q (.slice s5.a s5.len s5.cap) w6)
def A.law01_Few : AT := (.seq (.reg []) (.seq (.jk [(0, .slice)] [] (.seq (.reg []) (.cond (.reg []) .leaf))) (.seq (.reg []) .leaf)))
theorem W.law01_Few_eq (b : Sl) (most : Int) (w : World) (Q : Value → World → Prop) : W.law01_Few b most w Q = DF Tryd.prog tk A.law01_Few Tryd.f25 [.slice b.a b.len b.cap, .int .i64 most] w Q := by kernel_rfl
theorem W.law01_Few_ok (b : Sl) (most : Int) (w : World) (Q : Value → World → Prop) (h : W.law01_Few b most w Q) : Calls Tryd.prog F.law01_Few #[.slice b.a b.len b.cap, .int .i64 most] w fun e w1 => ∃ v, e = .returned v ∧ Q v w1 :=
  calls_of_DF hmix Tryd.func25 (by kernel_rfl) (Eq.mp (W.law01_Few_eq b most w Q) h)

/-- stanchion/stanchionlaw12.lives -/
def W.law12_lives  (w : World) (Q : Value → World → Prop) : Prop :=
  Calls Tryd.prog F.addr_Parse #[.string (ByteArray.mk #[49, 48, 46, 48, 46, 48, 46, 50, 53, 53])] w fun e2 w1 =>
  ∃ c3 : Array Value, ∃ b4 : Bool, e2 = .returned (.tuple #[.agg c3, .bool b4]) ∧
  Nx (
    w1.alloc (
      .cells #[.bool false, .int .u8 0, .int .u8 0, .int .u8 0, .int .u8 0, .int .u8 0, .int .u8 0, .int .u8 0, .int .u8 0, .int .u8 0, .int .u8 0, .int .u8 0, .int .u8 0, .int .u8 0, .int .u8 0, .int .u8 0, .int .u8 0] Ty.api_Addr)
    )
  fun w5 => StoreOk w5 ⟨w1.heap.size, 0, none⟩ (Array.toList c3) ∧ Array.size c3 = 17 ∧
  Nx (setCells w5 ⟨w1.heap.size, 0, none⟩ 0 (Array.toList c3)) fun w6 => Nx (w6.drew) fun w7 =>
  ∃ W8 : Nat → Prop, (
    b4 = true → ¬ W8 (⟨w1.heap.size, 0, none⟩ : Addr).block ∧ ∃ l9 : List Value, rdCells w7 ⟨w1.heap.size, 0, none⟩ 0 17 = some l9 ∧
    Calls Tryd.prog F.addr_Four #[.int .u8 10, .int .u8 0, .int .u8 0, .int .u8 255] w7 fun e11 w10 =>
    ∃ c12 : Array Value, e11 = .returned (.agg c12) ∧ Chg W8 w7 w10 ∧ ∃ b13 : Bool, AggEq Tryd.prog Ty.api_Addr l9.toArray c12 b13 ∧
    Jn (
      fun k14 : Bool → World → Prop => (
        b13 = true → ∃ l15 : List Value, rdCells w10 ⟨w1.heap.size, 0, none⟩ 0 17 = some l15 ∧
        Calls Tryd.prog F.addr_Show #[.agg l15.toArray] w10 fun e17 w16 => ∃ s18 : ByteArray, e17 = .returned (.string s18) ∧
        k14 (ByteArray.toList s18 == ByteArray.toList (ByteArray.mk #[49, 48, 46, 48, 46, 48, 46, 50, 53, 53])) w16)
      ∧ (b13 = false → k14 false w10))
    (fun (b19 : Bool) (w20 : World) => Q (.bool b19) w20))
  ∧ (
    b4 = false → Jn (
      fun k21 : Bool → World → Prop => (
        false = true → ∃ l22 : List Value, rdCells w7 ⟨w1.heap.size, 0, none⟩ 0 17 = some l22 ∧
        Calls Tryd.prog F.addr_Show #[.agg l22.toArray] w7 fun e24 w23 => ∃ s25 : ByteArray, e24 = .returned (.string s25) ∧
        k21 (ByteArray.toList s25 == ByteArray.toList (ByteArray.mk #[49, 48, 46, 48, 46, 48, 46, 50, 53, 53])) w23)
      ∧ (false = false → k21 false w7))
    (fun (b26 : Bool) (w27 : World) => Q (.bool b26) w27))
def A.law12_lives : AT := (.seq (.reg []) (.seq (.reg []) (.seq (.drw 4 true ⟨[0, 1, 2, 2, 14, 18, 40, 64, 192, 320, 576, 2047], [0, 1, 2, 2, 14, 18, 32, 64, 192, 320, 576, 1024]⟩ [128, 256, 512, 1024, 2048, 4096, 8192, 16384, 32768, 65536, 131072, 1] [4, 128, 258, 256, 1792, 2304, 4096, 8194, 24576, 40960, 73728, 131072] (.take 0 (.take 1 (.sp 8 (.take 2 (.eff 3 (.tail [.run, .run, .run, .split 3, .run, .run, .run, .run]))) (.take 2 (.take 3 (.tail [.run, .run, .run, .split 3, .run, .run, .run, .run]))))))) .leaf)))
theorem W.law12_lives_eq  (w : World) (Q : Value → World → Prop) : W.law12_lives  w Q = DF Tryd.prog tk A.law12_lives Tryd.f32 [] w Q := by kernel_rfl
theorem W.law12_lives_ok  (w : World) (Q : Value → World → Prop) (h : W.law12_lives  w Q) : Calls Tryd.prog F.law12_lives #[] w fun e w1 => ∃ v, e = .returned v ∧ Q v w1 :=
  calls_of_DF hmix Tryd.func32 (by kernel_rfl) (Eq.mp (W.law12_lives_eq  w Q) h)

end Go.Proofs.YtcjpgabpihkcjaaDoor
