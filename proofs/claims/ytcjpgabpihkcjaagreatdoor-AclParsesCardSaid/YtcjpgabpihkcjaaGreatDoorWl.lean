/- Printed by gen.py: each function of the program as what must be shown of it. -/
import Derived.Test.YtcjpgabpihkcjaaGreatDoorGb
namespace Go.Proofs.YtcjpgabpihkcjaaGreatDoor
open Go Gx
set_option maxRecDepth 100000
/-- stanchion/stanchionlaw32.AclShows -/
def W.law32_AclShows (r : Array Value) (w : World) (Q : Value → World → Prop) : Prop :=
  Nx (w.alloc (.cells r Ty.api_Rule)) fun w1 => ∃ l2 : List Value, rdCells w1 ⟨w.heap.size, 0, none⟩ 0 40 = some l2 ∧
  Calls Tryz.prog F.acl_Show #[.agg l2.toArray] w1 fun e4 w3 => ∃ s5 : ByteArray, e4 = .returned (.string s5) ∧
  Calls Tryz.prog F.acl_Parse #[.string s5] w3 fun e7 w6 => ∃ c8 : Array Value, ∃ b9 : Bool, e7 = .returned (.tuple #[.agg c8, .bool b9]) ∧
  Nx (
    w6.alloc (
      .cells #[.bool false, .int .u8 0, .int .u8 0, .int .u8 0, .int .u8 0, .int .u8 0, .int .u8 0, .int .u8 0, .int .u8 0, .int .u8 0, .int .u8 0, .int .u8 0, .int .u8 0, .int .u8 0, .int .u8 0, .int .u8 0, .int .u8 0, .int .i64 0, .bool false, .int .u8 0, .int .u8 0, .int .u8 0, .int .u8 0, .int .u8 0, .int .u8 0, .int .u8 0, .int .u8 0, .int .u8 0, .int .u8 0, .int .u8 0, .int .u8 0, .int .u8 0, .int .u8 0, .int .u8 0, .int .u8 0, .int .i64 0, .int .u8 0, .int .u16 0, .int .u16 0, .bool false] Ty.api_Rule)
    )
  fun w10 => StoreOk w10 ⟨w6.heap.size, 0, none⟩ (Array.toList c8) ∧ Array.size c8 = 40 ∧
  Nx (setCells w10 ⟨w6.heap.size, 0, none⟩ 0 (Array.toList c8)) fun w11 => ∃ l12 : List Value, rdCells w11 ⟨w.heap.size, 0, none⟩ 0 40 = some l12 ∧
  Calls Tryz.prog F.ref32_Show #[.agg l12.toArray] w11 fun e14 w13 => ∃ s15 : ByteArray, e14 = .returned (.string s15) ∧
  Jn (
    fun k16 : Bool → World → Prop => (
      (
        (ByteArray.toList s5 == ByteArray.toList s15) && (b9 == (!(ByteArray.toList s5 == ByteArray.toList (ByteArray.mk #[])))))
      = true → Jn (
        fun k17 : Bool → World → Prop => (
          b9 = true → ∃ l18 : List Value, rdCells w13 ⟨w6.heap.size, 0, none⟩ 0 40 = some l18 ∧
          ∃ l19 : List Value, rdCells w13 ⟨w.heap.size, 0, none⟩ 0 40 = some l19 ∧ ∃ b20 : Bool, AggEq Tryz.prog Ty.api_Rule l18.toArray l19.toArray b20 ∧
          k17 b20 w13)
        ∧ (b9 = false → k17 false w13))
      (
        fun (b21 : Bool) (w22 : World) => Jn (
          fun k23 : Bool → World → Prop => (b21 = true → k23 true w22) ∧ (
            b21 = false → Jn (
              fun k24 : Bool → World → Prop => (
                (!b9) = true → ∃ l25 : List Value, rdCells w22 ⟨w6.heap.size, 0, none⟩ 0 40 = some l25 ∧
                ∃ c26 : Array Value, Sem.run Tryz.prog (Instr.build Ty.api_Rule #[]) w22 = .ok (.agg c26) w22 ∧
                ∃ b27 : Bool, AggEq Tryz.prog Ty.api_Rule l25.toArray c26 b27 ∧ k24 b27 w22)
              ∧ ((!b9) = false → k24 false w22))
            (fun (b28 : Bool) (w29 : World) => k23 b28 w29))
          )
        (fun (b30 : Bool) (w31 : World) => k16 b30 w31))
      )
    ∧ (
      (
        (ByteArray.toList s5 == ByteArray.toList s15) && (b9 == (!(ByteArray.toList s5 == ByteArray.toList (ByteArray.mk #[])))))
      = false → k16 false w13)
    )
  (
    fun (b32 : Bool) (w33 : World) => Jn (
      fun k34 : Bool → World → Prop => (
        b32 = true → Calls Tryz.prog F.law32_lives #[] w33 fun e36 w35 => ∃ b37 : Bool, e36 = .returned (.bool b37) ∧
        k34 b37 w35)
      ∧ (b32 = false → k34 false w33))
    (fun (b38 : Bool) (w39 : World) => Q (.bool b38) w39))
def A.law32_AclShows : AT := (.seq (.reg []) (.seq (.reg []) (.seq (.reg []) (.seq (.reg [.run, .run, .run, .run, .run, .pure 4, .run, .run, .run, .run, .run, .split 15, .run, .split 3, .run, .run, .run, .run, .split 7, .run, .run, .split 3, .run, .run, .run, .run, .run, .run, .split 1]) .leaf))))
theorem W.law32_AclShows_eq (r : Array Value) (w : World) (Q : Value → World → Prop) : W.law32_AclShows r w Q = DF Tryz.prog tk A.law32_AclShows Tryz.f3 [.agg r] w Q := by kernel_rfl
theorem W.law32_AclShows_ok (r : Array Value) (w : World) (Q : Value → World → Prop) (h : W.law32_AclShows r w Q) : Calls Tryz.prog F.law32_AclShows #[.agg r] w fun e w1 => ∃ v, e = .returned v ∧ Q v w1 :=
  calls_of_DF hmix Tryz.func3 (by kernel_rfl) (Eq.mp (W.law32_AclShows_eq r w Q) h)

/-- stanchion/stanchionlaw32.AclParses -/
def W.law32_AclParses (s : ByteArray) (r : Array Value) (w : World) (Q : Value → World → Prop) : Prop :=
  Nx (w.alloc (.cells r Ty.api_Rule)) fun w1 => Jn (
    fun k2 : ByteArray → World → Prop => (
      (decide ((((ByteArray.size s : Nat) : Int) : Int) > 200)) = true → ((0 : Int) ≤ 200 ∧ 200 ≤ (((ByteArray.size s) : Nat) : Int)) ∧
      k2 (ByteArray.extract s 0 (Int.toNat 200)) w1)
    ∧ ((decide ((((ByteArray.size s : Nat) : Int) : Int) > 200)) = false → k2 s w1))
  (
    fun (s3 : ByteArray) (w4 : World) => Calls Tryz.prog F.acl_Parse #[.string s3] w4 fun e6 w5 =>
    ∃ c7 : Array Value, ∃ b8 : Bool, e6 = .returned (.tuple #[.agg c7, .bool b8]) ∧
    Nx (
      w5.alloc (
        .cells #[.bool false, .int .u8 0, .int .u8 0, .int .u8 0, .int .u8 0, .int .u8 0, .int .u8 0, .int .u8 0, .int .u8 0, .int .u8 0, .int .u8 0, .int .u8 0, .int .u8 0, .int .u8 0, .int .u8 0, .int .u8 0, .int .u8 0, .int .i64 0, .bool false, .int .u8 0, .int .u8 0, .int .u8 0, .int .u8 0, .int .u8 0, .int .u8 0, .int .u8 0, .int .u8 0, .int .u8 0, .int .u8 0, .int .u8 0, .int .u8 0, .int .u8 0, .int .u8 0, .int .u8 0, .int .u8 0, .int .i64 0, .int .u8 0, .int .u16 0, .int .u16 0, .bool false] Ty.api_Rule)
      )
    fun w9 => StoreOk w9 ⟨w5.heap.size, 0, none⟩ (Array.toList c7) ∧ Array.size c7 = 40 ∧
    Nx (setCells w9 ⟨w5.heap.size, 0, none⟩ 0 (Array.toList c7)) fun w10 => Jn (
      fun k11 : Bool → World → Prop => (
        b8 = true → ∃ l12 : List Value, rdCells w10 ⟨w5.heap.size, 0, none⟩ 0 40 = some l12 ∧
        Calls Tryz.prog F.ref32_Show #[.agg l12.toArray] w10 fun e14 w13 => ∃ s15 : ByteArray, e14 = .returned (.string s15) ∧
        k11 (!(ByteArray.toList s15 == ByteArray.toList s3)) w13)
      ∧ (b8 = false → k11 false w10))
    (
      fun (b16 : Bool) (w17 : World) => Jn (
        fun k18 : Bool → World → Prop => (b16 = true → k18 true w17) ∧ (
          b16 = false → Jn (
            fun k19 : Bool → World → Prop => (
              (!b8) = true → ∃ l20 : List Value, rdCells w17 ⟨w5.heap.size, 0, none⟩ 0 40 = some l20 ∧
              ∃ c21 : Array Value, Sem.run Tryz.prog (Instr.build Ty.api_Rule #[]) w17 = .ok (.agg c21) w17 ∧
              ∃ b22 : Bool, AggEq Tryz.prog Ty.api_Rule l20.toArray c21 b22 ∧ k19 (!b22) w17)
            ∧ ((!b8) = false → k19 false w17))
          (fun (b23 : Bool) (w24 : World) => k18 b23 w24))
        )
      (
        fun (b25 : Bool) (w26 : World) => (b25 = true → Q (.bool false) w26) ∧ (
          b25 = false → Jn (
            fun k27 : Bool → World → Prop => ((ByteArray.toList s3 == ByteArray.toList (ByteArray.mk #[])) = true → k27 true w26) ∧
            (
              (ByteArray.toList s3 == ByteArray.toList (ByteArray.mk #[])) = false → ∃ l28 : List Value, rdCells w26 ⟨w.heap.size, 0, none⟩ 0 40 = some l28 ∧
              Calls Tryz.prog F.ref32_Show #[.agg l28.toArray] w26 fun e30 w29 => ∃ s31 : ByteArray, e30 = .returned (.string s31) ∧
              k27 (!(ByteArray.toList s31 == ByteArray.toList s3)) w29)
            )
          (
            fun (b32 : Bool) (w33 : World) => Jn (
              fun k34 : Bool → World → Prop => (b32 = true → k34 true w33) ∧ (
                b32 = false → Jn (
                  fun k35 : Bool → World → Prop => (
                    b8 = true → ∃ l36 : List Value, rdCells w33 ⟨w5.heap.size, 0, none⟩ 0 40 = some l36 ∧
                    ∃ l37 : List Value, rdCells w33 ⟨w.heap.size, 0, none⟩ 0 40 = some l37 ∧ ∃ b38 : Bool, AggEq Tryz.prog Ty.api_Rule l36.toArray l37.toArray b38 ∧
                    k35 b38 w33)
                  ∧ (b8 = false → k35 false w33))
                (fun (b39 : Bool) (w40 : World) => k34 b39 w40))
              )
            (
              fun (b41 : Bool) (w42 : World) => Jn (
                fun k43 : Bool → World → Prop => (
                  b41 = true → Calls Tryz.prog F.law32_lives #[] w42 fun e45 w44 => ∃ b46 : Bool, e45 = .returned (.bool b46) ∧
                  k43 b46 w44)
                ∧ (b41 = false → k43 false w42))
              (fun (b47 : Bool) (w48 : World) => Q (.bool b47) w48))
            )
          )
        )
      )
    )
def A.law32_AclParses : AT := (.seq (.reg []) (.seq (.jk [(0, .str)] [3] (.seq (.reg []) (.cond (.reg []) .leaf))) (.seq (.reg []) (.seq (.seq (.reg [.run, .run, .split 4, .run, .run, .run, .run, .run, .split 7, .run, .run, .split 3]) (.cond (.seq (.reg []) .leaf) .leaf)) (.seq (.reg [.run, .run, .run, .split 4, .run, .run, .run, .run, .run, .split 6, .run, .split 3, .run, .run, .run, .run, .run, .split 1]) .leaf)))))
theorem W.law32_AclParses_eq (s : ByteArray) (r : Array Value) (w : World) (Q : Value → World → Prop) : W.law32_AclParses s r w Q = DF Tryz.prog tk A.law32_AclParses Tryz.f4 [.string s, .agg r] w Q := by kernel_rfl
theorem W.law32_AclParses_ok (s : ByteArray) (r : Array Value) (w : World) (Q : Value → World → Prop) (h : W.law32_AclParses s r w Q) : Calls Tryz.prog F.law32_AclParses #[.string s, .agg r] w fun e w1 => ∃ v, e = .returned v ∧ Q v w1 :=
  calls_of_DF hmix Tryz.func4 (by kernel_rfl) (Eq.mp (W.law32_AclParses_eq s r w Q) h)

/-- stanchion/stanchionlaw32.lives -/
def W.law32_lives  (w : World) (Q : Value → World → Prop) : Prop :=
  ∃ c1 : Array Value, Sem.run Tryz.prog (Instr.build Ty.api_Rule #[(4, .int .u16 65535)]) w = .ok (.agg c1) w ∧
  Nx (
    w.alloc (
      .cells #[.bool false, .int .u8 0, .int .u8 0, .int .u8 0, .int .u8 0, .int .u8 0, .int .u8 0, .int .u8 0, .int .u8 0, .int .u8 0, .int .u8 0, .int .u8 0, .int .u8 0, .int .u8 0, .int .u8 0, .int .u8 0, .int .u8 0, .int .i64 0, .bool false, .int .u8 0, .int .u8 0, .int .u8 0, .int .u8 0, .int .u8 0, .int .u8 0, .int .u8 0, .int .u8 0, .int .u8 0, .int .u8 0, .int .u8 0, .int .u8 0, .int .u8 0, .int .u8 0, .int .u8 0, .int .u8 0, .int .i64 0, .int .u8 0, .int .u16 0, .int .u16 0, .bool false] Ty.api_Rule)
    )
  fun w2 => StoreOk w2 ⟨w.heap.size, 0, none⟩ (Array.toList c1) ∧ Array.size c1 = 40 ∧
  Nx (setCells w2 ⟨w.heap.size, 0, none⟩ 0 (Array.toList c1)) fun w3 => ∃ l4 : List Value, rdCells w3 ⟨w.heap.size, 0, none⟩ 0 40 = some l4 ∧
  ∃ s5 : Sl, ∃ w6 : World, Sem.run Tryz.prog (Instr.buildSlice Ty.Sl_api_Rule 1 #[(0, .agg l4.toArray)]) w3 = .ok (.slice s5.a s5.len s5.cap) w6 ∧
  ∃ c7 : Array Value, Sem.run Tryz.prog (Instr.build Ty.api_Flow #[(4, .int .u8 6), (3, .int .u16 5)]) w6 = .ok (.agg c7) w6 ∧
  Calls Tryz.prog F.acl_First #[.slice s5.a s5.len s5.cap, .agg c7] w6 fun e9 w8 =>
  ∃ n10 : Int, ∃ b11 : Bool, e9 = .returned (.tuple #[.int .i64 n10, .bool b11]) ∧
  ∃ l12 : List Value, rdCells w8 ⟨w.heap.size, 0, none⟩ 0 40 = some l12 ∧ Calls Tryz.prog F.acl_Good #[.agg l12.toArray] w8 fun e14 w13 =>
  ∃ b15 : Bool, e14 = .returned (.bool b15) ∧ Jn (
    fun k16 : Bool → World → Prop => (
      ((b15 && ((n10 : Int) == 0)) && (!b11)) = true → ∃ l17 : List Value, rdCells w13 ⟨w.heap.size, 0, none⟩ 0 40 = some l17 ∧
      Calls Tryz.prog F.acl_Show #[.agg l17.toArray] w13 fun e19 w18 => ∃ s20 : ByteArray, e19 = .returned (.string s20) ∧
      k16 (
        ByteArray.toList s20 == ByteArray.toList (
          ByteArray.mk #[100, 101, 110, 121, 32, 97, 110, 121, 32, 48, 46, 48, 46, 48, 46, 48, 47, 48, 32, 48, 46, 48, 46, 48, 46, 48, 47, 48, 32, 48, 45, 54, 53, 53, 51, 53])
        )
      w18)
    ∧ (((b15 && ((n10 : Int) == 0)) && (!b11)) = false → k16 false w13))
  (fun (b21 : Bool) (w22 : World) => Q (.bool b21) w22)
def A.law32_lives : AT := (.seq (.reg []) (.seq (.reg []) (.seq (.reg []) (.seq (.reg [.run, .run, .run, .pure 2, .run, .run, .run, .pure 2, .run, .run, .run, .split 3]) .leaf))))
theorem W.law32_lives_eq  (w : World) (Q : Value → World → Prop) : W.law32_lives  w Q = DF Tryz.prog tk A.law32_lives Tryz.f8 [] w Q := by kernel_rfl
theorem W.law32_lives_ok  (w : World) (Q : Value → World → Prop) (h : W.law32_lives  w Q) : Calls Tryz.prog F.law32_lives #[] w fun e w1 => ∃ v, e = .returned v ∧ Q v w1 :=
  calls_of_DF hmix Tryz.func8 (by kernel_rfl) (Eq.mp (W.law32_lives_eq  w Q) h)

end Go.Proofs.YtcjpgabpihkcjaaGreatDoor
