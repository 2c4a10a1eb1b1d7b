/- Printed by gen.py: each function of the program as what must be shown of it. -/
import Derived.Test.YtldeegpcldhjaaaGb
namespace Go.Proofs.Ytldeegpcldhjaaa
open Go Gx
set_option maxRecDepth 100000
/-- gosem.cut.init -/
def W.gosem_cut_init  (w : World) (Q : Value → World → Prop) : Prop :=
  ∃ w1 : World, Sem.run Try.prog (callFunc F.gosem_cut #[]) w = .ok (.value (.tuple #[])) w1 ∧
  Q (.tuple #[]) w1
def A.gosem_cut_init : AT := (.reg [])
theorem W.gosem_cut_init_eq  (w : World) (Q : Value → World → Prop) : W.gosem_cut_init  w Q = DF Try.prog tk A.gosem_cut_init Try.f2 [] w Q := by kernel_rfl
theorem W.gosem_cut_init_ok  (w : World) (Q : Value → World → Prop) (h : W.gosem_cut_init  w Q) : Calls Try.prog F.gosem_cut_init #[] w fun e w1 => ∃ v, e = .returned v ∧ Q v w1 :=
  calls_of_DF hmix Try.func2 (by kernel_rfl) (Eq.mp (W.gosem_cut_init_eq  w Q) h)

/-- slices.Sorted[int] -/
def W.slices_Sorted_int (seq : Fv) (w : World) (Q : Value → World → Prop) : Prop :=
  Calls Try.prog F.slices_Collect_int #[.func (.func seq.f) seq.pre seq.cap] w fun e2 w1 =>
  ∃ s3 : Sl, e2 = .returned (.slice s3.a s3.len s3.cap) ∧ Calls Try.prog F.slices_Sort_Sl_int_int #[.slice s3.a s3.len s3.cap] w1 fun e5 w4 =>
  e5 = .returned (.tuple #[]) ∧ Q (.slice s3.a s3.len s3.cap) w4
def A.slices_Sorted_int : AT := (.seq (.reg []) (.seq (.reg []) (.seq (.reg []) (.seq (.reg []) .leaf))))
theorem W.slices_Sorted_int_eq (seq : Fv) (w : World) (Q : Value → World → Prop) : W.slices_Sorted_int seq w Q = DF Try.prog tk A.slices_Sorted_int Try.f38 [.func (.func seq.f) seq.pre seq.cap] w Q := by kernel_rfl
theorem W.slices_Sorted_int_ok (seq : Fv) (w : World) (Q : Value → World → Prop) (h : W.slices_Sorted_int seq w Q) : Calls Try.prog F.slices_Sorted_int #[.func (.func seq.f) seq.pre seq.cap] w fun e w1 => ∃ v, e = .returned v ∧ Q v w1 :=
  calls_of_DF hmix Try.func38 (by kernel_rfl) (Eq.mp (W.slices_Sorted_int_eq seq w Q) h)

/-- maps.Keys[map[int]*stanchion/api.Service,int,*stanchion/api.Service] -/
def W.maps_Keys_map_int_P_api_Service_int_P_api_Service (m : Option Nat) (w : World) (Q : Value → World → Prop) : Prop :=
  Nx (w.alloc (.cells #[.map m] Ty.map_int_P_api_Service)) fun w1 => Q (
    .func (.func F.maps_Keys_map_int_P_api_Service_int_P_api_Service_1) #[] #[.pointer (some ⟨w.heap.size, 0, none⟩)])
  w1
def A.maps_Keys_map_int_P_api_Service_int_P_api_Service : AT := (.seq (.reg []) (.seq (.reg []) .leaf))
theorem W.maps_Keys_map_int_P_api_Service_int_P_api_Service_eq (m : Option Nat) (w : World) (Q : Value → World → Prop) : W.maps_Keys_map_int_P_api_Service_int_P_api_Service m w Q = DF Try.prog tk A.maps_Keys_map_int_P_api_Service_int_P_api_Service Try.f39 [.map m] w Q := by kernel_rfl
theorem W.maps_Keys_map_int_P_api_Service_int_P_api_Service_ok (m : Option Nat) (w : World) (Q : Value → World → Prop) (h : W.maps_Keys_map_int_P_api_Service_int_P_api_Service m w Q) : Calls Try.prog F.maps_Keys_map_int_P_api_Service_int_P_api_Service #[.map m] w fun e w1 => ∃ v, e = .returned v ∧ Q v w1 :=
  calls_of_DF hmix Try.func39 (by kernel_rfl) (Eq.mp (W.maps_Keys_map_int_P_api_Service_int_P_api_Service_eq m w Q) h)

/-- slices.Clone[[]stanchion/api.Backend,stanchion/api.Backend] -/
def W.slices_Clone_Sl_api_Backend_api_Backend (s : Sl) (w : World) (Q : Value → World → Prop) : Prop :=
  ((Option.isNone s.a) = true → Q (.slice none 0 0) w) ∧ (
    (Option.isNone s.a) = false → ∃ s1 : Sl, ∃ w2 : World, Sem.run Try.prog (Instr.buildSlice Ty.Sl_api_Backend 0 #[]) w = .ok (.slice s1.a s1.len s1.cap) w2 ∧
    ∃ s3 : Sl, ∃ w4 : World, Sem.run Try.prog (
      Builtin.append_ #[Ty.Sl_api_Backend, Ty.Sl_api_Backend] Ty.Sl_api_Backend #[.slice s1.a s1.len s1.cap, .slice s.a s.len s.cap])
    w2 = .ok (.slice s3.a s3.len s3.cap) w4 ∧ Q (.slice s3.a s3.len s3.cap) w4)
def A.slices_Clone_Sl_api_Backend_api_Backend : AT := (.seq (.reg []) (.seq (.seq (.reg []) (.cond (.seq (.reg []) .leaf) .leaf)) (.seq (.reg []) .leaf)))
theorem W.slices_Clone_Sl_api_Backend_api_Backend_eq (s : Sl) (w : World) (Q : Value → World → Prop) : W.slices_Clone_Sl_api_Backend_api_Backend s w Q = DF Try.prog tk A.slices_Clone_Sl_api_Backend_api_Backend Try.f40 [.slice s.a s.len s.cap] w Q := by kernel_rfl
theorem W.slices_Clone_Sl_api_Backend_api_Backend_ok (s : Sl) (w : World) (Q : Value → World → Prop) (h : W.slices_Clone_Sl_api_Backend_api_Backend s w Q) : Calls Try.prog F.slices_Clone_Sl_api_Backend_api_Backend #[.slice s.a s.len s.cap] w fun e w1 => ∃ v, e = .returned v ∧ Q v w1 :=
  calls_of_DF hmix Try.func40 (by kernel_rfl) (Eq.mp (W.slices_Clone_Sl_api_Backend_api_Backend_eq s w Q) h)

/-- slices.Insert[[]stanchion/api.Backend,stanchion/api.Backend] -/
def W.slices_Insert_Sl_api_Backend_api_Backend (s : Sl) (i : Int) (v : Sl) (w : World) (Q : Value → World → Prop) : Prop :=
  ((0 : Int) ≤ i ∧ i ≤ ((s.len : Nat) : Int)) ∧ (((((v.len : Nat) : Int) : Int) == 0) = true → Q (.slice s.a s.len s.cap) w) ∧
  (
    ((((v.len : Nat) : Int) : Int) == 0) = false → (
      ((i : Int) == ((s.len : Nat) : Int)) = true → ∃ s1 : Sl, ∃ w2 : World, Sem.run Try.prog (
        Builtin.append_ #[Ty.Sl_api_Backend, Ty.Sl_api_Backend] Ty.Sl_api_Backend #[.slice s.a s.len s.cap, .slice v.a v.len v.cap])
      w = .ok (.slice s1.a s1.len s1.cap) w2 ∧ Q (.slice s1.a s1.len s1.cap) w2)
    ∧ (
      ((i : Int) == ((s.len : Nat) : Int)) = false → (
        (
          decide (((IntKind.wrap .i64 (((s.len : Nat) : Int) + ((v.len : Nat) : Int))) : Int) > ((s.cap : Nat) : Int)))
        = true → ((0 : Int) ≤ i ∧ i ≤ ((s.cap : Nat) : Int)) ∧ ∃ s3 : Sl, ∃ w4 : World, Sem.run Try.prog (
          Builtin.append_ #[Ty.Sl_api_Backend, Ty.int] Ty.Sl_api_Backend #[.slice (cutA s.a 21 0 s.cap) ((Int.toNat i) - 0) (s.cap - 0), .int .i64 (IntKind.wrap .i64 ((IntKind.wrap .i64 (((s.len : Nat) : Int) + ((v.len : Nat) : Int))) - i))])
        w = .ok (.slice s3.a s3.len s3.cap) w4 ∧ ((0 : Int) ≤ i ∧ i ≤ ((s3.len : Nat) : Int)) ∧
        ∃ n5 : Int, ∃ w6 : World, Sem.run Try.prog (
          Builtin.copy_ #[Ty.Sl_api_Backend, Ty.Sl_api_Backend] Ty.int #[.slice (cutA s3.a 21 (Int.toNat i) s3.cap) (s3.len - (Int.toNat i)) (s3.cap - (Int.toNat i)), .slice v.a v.len v.cap])
        w4 = .ok (.int .i64 n5) w6 ∧ Nx (w6.drew) fun w7 => (
          (0 : Int) ≤ (IntKind.wrap .i64 (i + ((v.len : Nat) : Int))) ∧ (IntKind.wrap .i64 (i + ((v.len : Nat) : Int))) ≤ ((s3.len : Nat) : Int))
        ∧ ((0 : Int) ≤ i ∧ i ≤ ((s.len : Nat) : Int)) ∧ ∃ n8 : Int, ∃ w9 : World, Sem.run Try.prog (
          Builtin.copy_ #[Ty.Sl_api_Backend, Ty.Sl_api_Backend] Ty.int #[.slice (cutA s3.a 21 (Int.toNat (IntKind.wrap .i64 (i + ((v.len : Nat) : Int)))) s3.cap) (s3.len - (Int.toNat (IntKind.wrap .i64 (i + ((v.len : Nat) : Int))))) (s3.cap - (Int.toNat (IntKind.wrap .i64 (i + ((v.len : Nat) : Int))))), .slice (cutA s.a 21 (Int.toNat i) s.cap) (s.len - (Int.toNat i)) (s.cap - (Int.toNat i))])
        w7 = .ok (.int .i64 n8) w9 ∧ Q (.slice s3.a s3.len s3.cap) w9)
      ∧ (
        (
          decide (((IntKind.wrap .i64 (((s.len : Nat) : Int) + ((v.len : Nat) : Int))) : Int) > ((s.cap : Nat) : Int)))
        = false → (
          (0 : Int) ≤ (IntKind.wrap .i64 (((s.len : Nat) : Int) + ((v.len : Nat) : Int))) ∧
          (IntKind.wrap .i64 (((s.len : Nat) : Int) + ((v.len : Nat) : Int))) ≤ ((s.cap : Nat) : Int))
        ∧ (
          (0 : Int) ≤ (IntKind.wrap .i64 (i + ((v.len : Nat) : Int))) ∧ (IntKind.wrap .i64 (i + ((v.len : Nat) : Int))) ≤ ((((Int.toNat (IntKind.wrap .i64 (((s.len : Nat) : Int) + ((v.len : Nat) : Int)))) - 0) : Nat) : Int))
        ∧ ∃ b10 : Bool, ∃ w11 : World, Sem.run Try.prog (
          callFunc F.slices_overlaps_api_Backend #[.slice v.a v.len v.cap, .slice (
            cutA (cutA s.a 21 0 s.cap) 21 (Int.toNat (IntKind.wrap .i64 (i + ((v.len : Nat) : Int)))) (s.cap - 0))
          (
            ((Int.toNat (IntKind.wrap .i64 (((s.len : Nat) : Int) + ((v.len : Nat) : Int)))) - 0) - (Int.toNat (IntKind.wrap .i64 (i + ((v.len : Nat) : Int)))))
          ((s.cap - 0) - (Int.toNat (IntKind.wrap .i64 (i + ((v.len : Nat) : Int)))))])
        w = .ok (.value (.bool b10)) w11 ∧ (
          (!b10) = true → Nx (w11.drew) fun w12 => (
            (0 : Int) ≤ (IntKind.wrap .i64 (i + ((v.len : Nat) : Int))) ∧ (IntKind.wrap .i64 (i + ((v.len : Nat) : Int))) ≤ ((((Int.toNat (IntKind.wrap .i64 (((s.len : Nat) : Int) + ((v.len : Nat) : Int)))) - 0) : Nat) : Int))
          ∧ (
            (0 : Int) ≤ i ∧ i ≤ ((((Int.toNat (IntKind.wrap .i64 (((s.len : Nat) : Int) + ((v.len : Nat) : Int)))) - 0) : Nat) : Int))
          ∧ ∃ n13 : Int, ∃ w14 : World, Sem.run Try.prog (
            Builtin.copy_ #[Ty.Sl_api_Backend, Ty.Sl_api_Backend] Ty.int #[.slice (
              cutA (cutA s.a 21 0 s.cap) 21 (Int.toNat (IntKind.wrap .i64 (i + ((v.len : Nat) : Int)))) (s.cap - 0))
            (
              ((Int.toNat (IntKind.wrap .i64 (((s.len : Nat) : Int) + ((v.len : Nat) : Int)))) - 0) - (Int.toNat (IntKind.wrap .i64 (i + ((v.len : Nat) : Int)))))
            ((s.cap - 0) - (Int.toNat (IntKind.wrap .i64 (i + ((v.len : Nat) : Int))))), .slice (cutA (cutA s.a 21 0 s.cap) 21 (Int.toNat i) (s.cap - 0)) (
              ((Int.toNat (IntKind.wrap .i64 (((s.len : Nat) : Int) + ((v.len : Nat) : Int)))) - 0) - (Int.toNat i))
            ((s.cap - 0) - (Int.toNat i))])
          w12 = .ok (.int .i64 n13) w14 ∧ (
            (0 : Int) ≤ i ∧ i ≤ ((((Int.toNat (IntKind.wrap .i64 (((s.len : Nat) : Int) + ((v.len : Nat) : Int)))) - 0) : Nat) : Int))
          ∧ ∃ n15 : Int, ∃ w16 : World, Sem.run Try.prog (
            Builtin.copy_ #[Ty.Sl_api_Backend, Ty.Sl_api_Backend] Ty.int #[.slice (cutA (cutA s.a 21 0 s.cap) 21 (Int.toNat i) (s.cap - 0)) (
              ((Int.toNat (IntKind.wrap .i64 (((s.len : Nat) : Int) + ((v.len : Nat) : Int)))) - 0) - (Int.toNat i))
            ((s.cap - 0) - (Int.toNat i)), .slice v.a v.len v.cap])
          w14 = .ok (.int .i64 n15) w16 ∧ Q (
            .slice (cutA s.a 21 0 s.cap) ((Int.toNat (IntKind.wrap .i64 (((s.len : Nat) : Int) + ((v.len : Nat) : Int)))) - 0) (s.cap - 0))
          w16)
        ∧ (
          (!b10) = false → (
            (0 : Int) ≤ ((s.len : Nat) : Int) ∧ ((s.len : Nat) : Int) ≤ ((((Int.toNat (IntKind.wrap .i64 (((s.len : Nat) : Int) + ((v.len : Nat) : Int)))) - 0) : Nat) : Int))
          ∧ ∃ n17 : Int, ∃ w18 : World, Sem.run Try.prog (
            Builtin.copy_ #[Ty.Sl_api_Backend, Ty.Sl_api_Backend] Ty.int #[.slice (cutA (cutA s.a 21 0 s.cap) 21 (Int.toNat ((s.len : Nat) : Int)) (s.cap - 0)) (
              ((Int.toNat (IntKind.wrap .i64 (((s.len : Nat) : Int) + ((v.len : Nat) : Int)))) - 0) - (Int.toNat ((s.len : Nat) : Int)))
            ((s.cap - 0) - (Int.toNat ((s.len : Nat) : Int))), .slice v.a v.len v.cap])
          w11 = .ok (.int .i64 n17) w18 ∧ (
            (0 : Int) ≤ i ∧ i ≤ ((((Int.toNat (IntKind.wrap .i64 (((s.len : Nat) : Int) + ((v.len : Nat) : Int)))) - 0) : Nat) : Int))
          ∧ Calls Try.prog F.slices_rotateRight_api_Backend #[.slice (cutA (cutA s.a 21 0 s.cap) 21 (Int.toNat i) (s.cap - 0)) (
            ((Int.toNat (IntKind.wrap .i64 (((s.len : Nat) : Int) + ((v.len : Nat) : Int)))) - 0) - (Int.toNat i))
          ((s.cap - 0) - (Int.toNat i)), .int .i64 ((v.len : Nat) : Int)] w18 fun e20 w19 =>
          e20 = .returned (.tuple #[]) ∧ Q (
            .slice (cutA s.a 21 0 s.cap) ((Int.toNat (IntKind.wrap .i64 (((s.len : Nat) : Int) + ((v.len : Nat) : Int)))) - 0) (s.cap - 0))
          w19)
        )
      )
    )
def A.slices_Insert_Sl_api_Backend_api_Backend : AT := (.seq (.reg []) (.seq (.reg []) (.seq (.reg []) (.seq (.seq (.reg []) (.cond (.seq (.reg []) .leaf) .leaf)) (.seq (.reg []) (.seq (.seq (.reg []) (.cond (.seq (.reg []) .leaf) .leaf)) (.seq (.seq (.reg []) (.cond (.seq (.reg []) (.seq (.reg []) (.seq (.drw 8 false ⟨[0, 0, 0, 6, 9, 0, 0, 96, 144], [0, 0, 0, 6, 9, 0, 0, 96, 144]⟩ [70368744177664, 140737488355328, 281474976710656, 562949953421312, 1125899906842624, 2251799813685248, 4503599627370496, 9007199254740992, 18014398509481984] [512, 2, 128, 422212465065984, 633318697598976, 1, 2, 6755399441055744, 10133099161583616] (.take 0 (.take 1 (.take 2 (.take 3 (.take 4 (.take 5 (.take 6 (.take 7 (.tail [.run])))))))))) (.seq (.reg []) .leaf)))) .leaf)) (.seq (.reg []) (.seq (.seq (.reg []) (.cond (.seq (.drw 8 false ⟨[0, 0, 0, 6, 9, 0, 0, 96, 144], [0, 0, 0, 6, 9, 0, 0, 96, 144]⟩ [590295810358705651712, 1180591620717411303424, 2361183241434822606848, 4722366482869645213696, 9444732965739290427392, 18889465931478580854784, 37778931862957161709568, 75557863725914323419136, 151115727451828646838272] [1, 2, 128, 3541774862152233910272, 5312662293228350865408, 1, 2, 56668397794435742564352, 85002596691653613846528] (.take 0 (.take 1 (.take 2 (.take 3 (.take 4 (.take 5 (.take 6 (.take 7 (.tail [.run])))))))))) (.seq (.reg []) (.seq (.reg []) .leaf))) .leaf)) (.seq (.reg []) (.seq (.reg []) (.seq (.reg []) .leaf))))))))))))
theorem W.slices_Insert_Sl_api_Backend_api_Backend_eq (s : Sl) (i : Int) (v : Sl) (w : World) (Q : Value → World → Prop) : W.slices_Insert_Sl_api_Backend_api_Backend s i v w Q = DF Try.prog tk A.slices_Insert_Sl_api_Backend_api_Backend Try.f46 [.slice s.a s.len s.cap, .int .i64 i, .slice v.a v.len v.cap] w Q := by kernel_rfl
theorem W.slices_Insert_Sl_api_Backend_api_Backend_ok (s : Sl) (i : Int) (v : Sl) (w : World) (Q : Value → World → Prop) (h : W.slices_Insert_Sl_api_Backend_api_Backend s i v w Q) : Calls Try.prog F.slices_Insert_Sl_api_Backend_api_Backend #[.slice s.a s.len s.cap, .int .i64 i, .slice v.a v.len v.cap] w fun e w1 => ∃ v, e = .returned v ∧ Q v w1 :=
  calls_of_DF hmix Try.func46 (by kernel_rfl) (Eq.mp (W.slices_Insert_Sl_api_Backend_api_Backend_eq s i v w Q) h)

/-- slices.Delete[[]stanchion/api.Backend,stanchion/api.Backend] -/
def W.slices_Delete_Sl_api_Backend_api_Backend (s : Sl) (i : Int) (j : Int) (w : World) (Q : Value → World → Prop) : Prop :=
  ((0 : Int) ≤ ((s.len : Nat) : Int) ∧ ((s.len : Nat) : Int) ≤ ((s.cap : Nat) : Int)) ∧
  ((0 : Int) ≤ j ∧ j ≤ (((Int.toNat ((s.len : Nat) : Int)) : Nat) : Int)) ∧
  ((0 : Int) ≤ i ∧ i ≤ (((Int.toNat j) : Nat) : Int)) ∧ (((i : Int) == j) = true → Q (.slice s.a s.len s.cap) w) ∧
  (
    ((i : Int) == j) = false → Nx (w.drew) fun w1 => ((0 : Int) ≤ i ∧ i ≤ ((s.cap : Nat) : Int)) ∧
    ((0 : Int) ≤ j ∧ j ≤ ((s.len : Nat) : Int)) ∧ ∃ s2 : Sl, ∃ w3 : World, Sem.run Try.prog (
      Builtin.append_ #[Ty.Sl_api_Backend, Ty.Sl_api_Backend] Ty.Sl_api_Backend #[.slice (cutA s.a 21 0 s.cap) ((Int.toNat i) - 0) (s.cap - 0), .slice (cutA s.a 21 (Int.toNat j) s.cap) (s.len - (Int.toNat j)) (s.cap - (Int.toNat j))])
    w1 = .ok (.slice s2.a s2.len s2.cap) w3 ∧ ((0 : Int) ≤ ((s.len : Nat) : Int) ∧ ((s.len : Nat) : Int) ≤ ((s2.cap : Nat) : Int)) ∧
    (
      (0 : Int) ≤ ((s2.len : Nat) : Int) ∧ ((s2.len : Nat) : Int) ≤ (((Int.toNat ((s.len : Nat) : Int)) : Nat) : Int))
    ∧ ∃ (r4 : Value) (w5 : World), Sem.run Try.prog (
      Builtin.clear_ #[Ty.Sl_api_Backend] Ty.t #[.slice (cutA s2.a 21 (Int.toNat ((s2.len : Nat) : Int)) s2.cap) ((Int.toNat ((s.len : Nat) : Int)) - (Int.toNat ((s2.len : Nat) : Int))) (s2.cap - (Int.toNat ((s2.len : Nat) : Int)))])
    w3 = .ok r4 w5 ∧ Q (.slice s2.a s2.len s2.cap) w5)
def A.slices_Delete_Sl_api_Backend_api_Backend : AT := (.seq (.reg []) (.seq (.reg []) (.seq (.seq (.reg []) (.cond (.seq (.reg []) .leaf) .leaf)) (.seq (.reg []) (.seq (.drw 6 false ⟨[0, 0, 3, 0, 0, 24, 36, 127], [0, 0, 3, 0, 0, 24, 36, 73]⟩ [1048576, 2097152, 4194304, 8388608, 16777216, 33554432, 67108864, 1] [1, 2, 3145728, 1, 4, 25165824, 37748736, 67108864] (.take 0 (.take 1 (.take 2 (.take 3 (.take 4 (.take 5 (.tail [.run, .run])))))))) (.seq (.reg []) (.seq (.reg []) .leaf)))))))
theorem W.slices_Delete_Sl_api_Backend_api_Backend_eq (s : Sl) (i : Int) (j : Int) (w : World) (Q : Value → World → Prop) : W.slices_Delete_Sl_api_Backend_api_Backend s i j w Q = DF Try.prog tk A.slices_Delete_Sl_api_Backend_api_Backend Try.f49 [.slice s.a s.len s.cap, .int .i64 i, .int .i64 j] w Q := by kernel_rfl
theorem W.slices_Delete_Sl_api_Backend_api_Backend_ok (s : Sl) (i : Int) (j : Int) (w : World) (Q : Value → World → Prop) (h : W.slices_Delete_Sl_api_Backend_api_Backend s i j w Q) : Calls Try.prog F.slices_Delete_Sl_api_Backend_api_Backend #[.slice s.a s.len s.cap, .int .i64 i, .int .i64 j] w fun e w1 => ∃ v, e = .returned v ∧ Q v w1 :=
  calls_of_DF hmix Try.func49 (by kernel_rfl) (Eq.mp (W.slices_Delete_Sl_api_Backend_api_Backend_eq s i j w Q) h)

/-- slices.IndexFunc[[]stanchion/api.Service,stanchion/api.Service] -/
def W.slices_IndexFunc_Sl_api_Service_api_Service (s : Sl) (f : Fv) (w : World) (Q : Value → World → Prop) : Prop :=
  ∃ (I1 : Int → World → Prop) (μ2 : Int → World → Nat), I1 0 w ∧ ∀ (n3 : Int) (w4 : World), I1 n3 w4 →
  (
    (decide ((n3 : Int) < ((s.len : Nat) : Int))) = true → ∃ a5 : Addr, s.a = some a5 ∧
    ((0 : Int) ≤ n3 ∧ n3 < ((s.len : Nat) : Int)) ∧ ∃ l6 : List Value, rdCells w4 (a5.add (Int.toNat n3 * 23)) 0 23 = some l6 ∧
    Callable Try.prog f.f ∧ Calls Try.prog f.f (f.pre ++ #[.agg l6.toArray] ++ f.cap) w4 fun e8 w7 =>
    ∃ b9 : Bool, e8 = .returned (.bool b9) ∧ (b9 = true → Q (.int .i64 n3) w7) ∧
    (b9 = false → I1 (IntKind.wrap .i64 (n3 + 1)) w7 ∧ μ2 (IntKind.wrap .i64 (n3 + 1)) w7 < μ2 n3 w4))
  ∧ ((decide ((n3 : Int) < ((s.len : Nat) : Int))) = false → Q (.int .i64 (-1)) w4)
def A.slices_IndexFunc_Sl_api_Service_api_Service : AT := (.seq (.reg []) (.seq (.seq (.reg []) (.blk (.loop [(8, (.int .i64))] [0, 1, 7] (.seq (.reg []) (.seq (.cond .leaf .leaf) (.seq (.blk (.seq (.reg []) (.seq (.reg []) (.cond (.seq (.reg []) .leaf) .leaf)))) (.reg []))))))) (.seq (.reg []) .leaf)))
theorem W.slices_IndexFunc_Sl_api_Service_api_Service_eq (s : Sl) (f : Fv) (w : World) (Q : Value → World → Prop) : W.slices_IndexFunc_Sl_api_Service_api_Service s f w Q = DF Try.prog tk A.slices_IndexFunc_Sl_api_Service_api_Service Try.f54 [.slice s.a s.len s.cap, .func (.func f.f) f.pre f.cap] w Q := by kernel_rfl
theorem W.slices_IndexFunc_Sl_api_Service_api_Service_ok (s : Sl) (f : Fv) (w : World) (Q : Value → World → Prop) (h : W.slices_IndexFunc_Sl_api_Service_api_Service s f w Q) : Calls Try.prog F.slices_IndexFunc_Sl_api_Service_api_Service #[.slice s.a s.len s.cap, .func (.func f.f) f.pre f.cap] w fun e w1 => ∃ v, e = .returned v ∧ Q v w1 :=
  calls_of_DF hmix Try.func54 (by kernel_rfl) (Eq.mp (W.slices_IndexFunc_Sl_api_Service_api_Service_eq s f w Q) h)

/-- slices.Collect[int] -/
def W.slices_Collect_int (seq : Fv) (w : World) (Q : Value → World → Prop) : Prop :=
  Calls Try.prog F.slices_AppendSeq_Sl_int_int #[.slice none 0 0, .func (.func seq.f) seq.pre seq.cap] w fun e2 w1 =>
  ∃ s3 : Sl, e2 = .returned (.slice s3.a s3.len s3.cap) ∧ Q (.slice s3.a s3.len s3.cap) w1
def A.slices_Collect_int : AT := (.seq (.reg []) (.seq (.reg []) .leaf))
theorem W.slices_Collect_int_eq (seq : Fv) (w : World) (Q : Value → World → Prop) : W.slices_Collect_int seq w Q = DF Try.prog tk A.slices_Collect_int Try.f60 [.func (.func seq.f) seq.pre seq.cap] w Q := by kernel_rfl
theorem W.slices_Collect_int_ok (seq : Fv) (w : World) (Q : Value → World → Prop) (h : W.slices_Collect_int seq w Q) : Calls Try.prog F.slices_Collect_int #[.func (.func seq.f) seq.pre seq.cap] w fun e w1 => ∃ v, e = .returned v ∧ Q v w1 :=
  calls_of_DF hmix Try.func60 (by kernel_rfl) (Eq.mp (W.slices_Collect_int_eq seq w Q) h)

/-- slices.Sort[[]int,int] -/
def W.slices_Sort_Sl_int_int (x : Sl) (w : World) (Q : Value → World → Prop) : Prop :=
  Calls Try.prog F.math_bits_Len #[.int .u64 (IntKind.wrap .u64 ((x.len : Nat) : Int))] w fun e2 w1 =>
  ∃ n3 : Int, e2 = .returned (.int .i64 n3) ∧ Calls Try.prog F.slices_pdqsortOrdered_int #[.slice x.a x.len x.cap, .int .i64 0, .int .i64 ((x.len : Nat) : Int), .int .i64 n3] w1 fun e5 w4 =>
  e5 = .returned (.tuple #[]) ∧ Q (.tuple #[]) w4
def A.slices_Sort_Sl_int_int : AT := (.seq (.reg []) (.reg []))
theorem W.slices_Sort_Sl_int_int_eq (x : Sl) (w : World) (Q : Value → World → Prop) : W.slices_Sort_Sl_int_int x w Q = DF Try.prog tk A.slices_Sort_Sl_int_int Try.f61 [.slice x.a x.len x.cap] w Q := by kernel_rfl
theorem W.slices_Sort_Sl_int_int_ok (x : Sl) (w : World) (Q : Value → World → Prop) (h : W.slices_Sort_Sl_int_int x w Q) : Calls Try.prog F.slices_Sort_Sl_int_int #[.slice x.a x.len x.cap] w fun e w1 => ∃ v, e = .returned v ∧ Q v w1 :=
  calls_of_DF hmix Try.func61 (by kernel_rfl) (Eq.mp (W.slices_Sort_Sl_int_int_eq x w Q) h)

/-- maps.Keys[map[int]*stanchion/api.Service,int,*stanchion/api.Service]$1 -/
def W.maps_Keys_map_int_P_api_Service_int_P_api_Service_1 (yield : Fv) (x : Addr) (w : World) (Q : Value → World → Prop) : Prop :=
  ∃ m1 : Option Nat, w.cell? x = some (.map m1) ∧ ∃ (v2 : Value) (w3 : World), Sem.run Try.prog (Instr.range Ty.map_int_P_api_Service (.map m1)) w = .ok v2 w3 ∧
  ∃ (I4 : World → Prop) (μ5 : World → Nat), I4 w3 ∧ ∀  (w6 : World), I4 w6 →
  (
    ∃ (v8 : Value) (v9 : Value) (w7 : World), Sem.run Try.prog (Instr.next (v2) false 0) w6 = .ok (.tuple #[.bool true, v8, v9]) w7 ∧
    (
      true = true → ∃ n10 : Int, ∃ v11 : Value, ∃ w12 : World, Sem.run Try.prog (Instr.entry (v2)) w7 = .ok (.tuple #[.int .i64 n10, v11]) w12 ∧
      Callable Try.prog yield.f ∧ Calls Try.prog yield.f (yield.pre ++ #[.int .i64 n10] ++ yield.cap) w12 fun e14 w13 =>
      ∃ b15 : Bool, e14 = .returned (.bool b15) ∧ ((!b15) = true → Q (.tuple #[]) w13) ∧
      ((!b15) = false → I4 w13 ∧ μ5 w13 < μ5 w6))
    ∧ (true = false → Q (.tuple #[]) w7))
  ∨ (
    ∃ w16 : World, Sem.run Try.prog (Instr.next (v2) false 0) w6 = .ok (.tuple #[.bool false]) w16 ∧
    (
      false = true → ∃ n17 : Int, ∃ v18 : Value, ∃ w19 : World, Sem.run Try.prog (Instr.entry (v2)) w16 = .ok (.tuple #[.int .i64 n17, v18]) w19 ∧
      Callable Try.prog yield.f ∧ Calls Try.prog yield.f (yield.pre ++ #[.int .i64 n17] ++ yield.cap) w19 fun e21 w20 =>
      ∃ b22 : Bool, e21 = .returned (.bool b22) ∧ ((!b22) = true → Q (.tuple #[]) w20) ∧
      ((!b22) = false → I4 w20 ∧ μ5 w20 < μ5 w6))
    ∧ (false = false → Q (.tuple #[]) w16))
def A.maps_Keys_map_int_P_api_Service_int_P_api_Service_1 : AT := (.seq (.reg []) (.blk (.loop [] [0, 5] (.seq (.reg []) (.seq (.cond .leaf .leaf) (.blk (.seq (.reg [.ent [(.one (.int .i64)), (.one .any)]]) (.seq (.reg []) (.cond .leaf .leaf)))))))))
theorem W.maps_Keys_map_int_P_api_Service_int_P_api_Service_1_eq (yield : Fv) (x : Addr) (w : World) (Q : Value → World → Prop) : W.maps_Keys_map_int_P_api_Service_int_P_api_Service_1 yield x w Q = DF Try.prog tk A.maps_Keys_map_int_P_api_Service_int_P_api_Service_1 Try.f62 [.func (.func yield.f) yield.pre yield.cap, .pointer (some x)] w Q := by kernel_rfl
theorem W.maps_Keys_map_int_P_api_Service_int_P_api_Service_1_ok (yield : Fv) (x : Addr) (w : World) (Q : Value → World → Prop) (h : W.maps_Keys_map_int_P_api_Service_int_P_api_Service_1 yield x w Q) : Calls Try.prog F.maps_Keys_map_int_P_api_Service_int_P_api_Service_1 #[.func (.func yield.f) yield.pre yield.cap, .pointer (some x)] w fun e w1 => ∃ v, e = .returned v ∧ Q v w1 :=
  calls_of_DF hmix Try.func62 (by kernel_rfl) (Eq.mp (W.maps_Keys_map_int_P_api_Service_int_P_api_Service_1_eq yield x w Q) h)

/-- slices.BinarySearchFunc[[]stanchion/api.Backend,stanchion/api.Backend,int] -/
def W.slices_BinarySearchFunc_Sl_api_Backend_api_Backend_int (x : Sl) (target : Int) (cmp : Fv) (w : World) (Q : Value → World → Prop) : Prop :=
  ∃ (I1 : Int → Int → World → Prop) (μ2 : Int → Int → World → Nat), I1 0 ((x.len : Nat) : Int) w ∧
  ∀ (n3 : Int) (n4 : Int) (w5 : World), I1 n3 n4 w5 → (
    (decide ((n3 : Int) < n4)) = true → (0 : Int) ≤ 1 ∧ ∃ a6 : Addr, x.a = some a6 ∧
    (
      (0 : Int) ≤ (
        IntKind.wrap .i64 (Int.fdiv (IntKind.wrap .u64 (IntKind.wrap .i64 (n3 + n4))) (2 ^ (min (Int.toNat 1) 64))))
      ∧ (
        IntKind.wrap .i64 (Int.fdiv (IntKind.wrap .u64 (IntKind.wrap .i64 (n3 + n4))) (2 ^ (min (Int.toNat 1) 64))))
      < ((x.len : Nat) : Int))
    ∧ ∃ l7 : List Value, rdCells w5 (
      a6.add (
        Int.toNat (
          IntKind.wrap .i64 (Int.fdiv (IntKind.wrap .u64 (IntKind.wrap .i64 (n3 + n4))) (2 ^ (min (Int.toNat 1) 64))))
        * 21)
      )
    0 21 = some l7 ∧ Callable Try.prog cmp.f ∧ Calls Try.prog cmp.f (cmp.pre ++ #[.agg l7.toArray, .int .i64 target] ++ cmp.cap) w5 fun e9 w8 =>
    ∃ n10 : Int, e9 = .returned (.int .i64 n10) ∧ (
      (decide ((n10 : Int) < 0)) = true → I1 (
        IntKind.wrap .i64 (
          (
            IntKind.wrap .i64 (Int.fdiv (IntKind.wrap .u64 (IntKind.wrap .i64 (n3 + n4))) (2 ^ (min (Int.toNat 1) 64))))
          + 1)
        )
      n4 w8 ∧ μ2 (
        IntKind.wrap .i64 (
          (
            IntKind.wrap .i64 (Int.fdiv (IntKind.wrap .u64 (IntKind.wrap .i64 (n3 + n4))) (2 ^ (min (Int.toNat 1) 64))))
          + 1)
        )
      n4 w8 < μ2 n3 n4 w5)
    ∧ (
      (decide ((n10 : Int) < 0)) = false → I1 n3 (
        IntKind.wrap .i64 (Int.fdiv (IntKind.wrap .u64 (IntKind.wrap .i64 (n3 + n4))) (2 ^ (min (Int.toNat 1) 64))))
      w8 ∧ μ2 n3 (
        IntKind.wrap .i64 (Int.fdiv (IntKind.wrap .u64 (IntKind.wrap .i64 (n3 + n4))) (2 ^ (min (Int.toNat 1) 64))))
      w8 < μ2 n3 n4 w5)
    )
  ∧ (
    (decide ((n3 : Int) < n4)) = false → Jn (
      fun k11 : Bool → World → Prop => (
        (decide ((n3 : Int) < ((x.len : Nat) : Int))) = true → ∃ a12 : Addr, x.a = some a12 ∧
        ((0 : Int) ≤ n3 ∧ n3 < ((x.len : Nat) : Int)) ∧ ∃ l13 : List Value, rdCells w5 (a12.add (Int.toNat n3 * 21)) 0 21 = some l13 ∧
        Callable Try.prog cmp.f ∧ Calls Try.prog cmp.f (cmp.pre ++ #[.agg l13.toArray, .int .i64 target] ++ cmp.cap) w5 fun e15 w14 =>
        ∃ n16 : Int, e15 = .returned (.int .i64 n16) ∧ k11 ((n16 : Int) == 0) w14)
      ∧ ((decide ((n3 : Int) < ((x.len : Nat) : Int))) = false → k11 false w5))
    (fun (b17 : Bool) (w18 : World) => Q (.tuple #[.int .i64 n3, .bool b17]) w18))
def A.slices_BinarySearchFunc_Sl_api_Backend_api_Backend_int : AT := (.seq (.reg []) (.seq (.reg []) (.seq (.reg []) (.seq (.blk (.loop [(9, (.int .i64)), (10, (.int .i64))] [0, 1, 2, 8] (.seq (.seq (.reg []) (.cond .leaf .leaf)) (.blk (.seq (.reg []) (.seq (.reg []) (.cond (.reg []) (.reg [])))))))) (.seq (.reg [.run, .run, .run, .run, .run, .split 8]) .leaf)))))
theorem W.slices_BinarySearchFunc_Sl_api_Backend_api_Backend_int_eq (x : Sl) (target : Int) (cmp : Fv) (w : World) (Q : Value → World → Prop) : W.slices_BinarySearchFunc_Sl_api_Backend_api_Backend_int x target cmp w Q = DF Try.prog tk A.slices_BinarySearchFunc_Sl_api_Backend_api_Backend_int Try.f63 [.slice x.a x.len x.cap, .int .i64 target, .func (.func cmp.f) cmp.pre cmp.cap] w Q := by kernel_rfl
theorem W.slices_BinarySearchFunc_Sl_api_Backend_api_Backend_int_ok (x : Sl) (target : Int) (cmp : Fv) (w : World) (Q : Value → World → Prop) (h : W.slices_BinarySearchFunc_Sl_api_Backend_api_Backend_int x target cmp w Q) : Calls Try.prog F.slices_BinarySearchFunc_Sl_api_Backend_api_Backend_int #[.slice x.a x.len x.cap, .int .i64 target, .func (.func cmp.f) cmp.pre cmp.cap] w fun e w1 => ∃ v, e = .returned v ∧ Q v w1 :=
  calls_of_DF hmix Try.func63 (by kernel_rfl) (Eq.mp (W.slices_BinarySearchFunc_Sl_api_Backend_api_Backend_int_eq x target cmp w Q) h)

/-- cmp.Compare[int] -/
def W.cmp_Compare_int (x : Int) (y : Int) (w : World) (Q : Value → World → Prop) : Prop :=
  Calls Try.prog F.cmp_isNaN_int #[.int .i64 x] w fun e2 w1 => ∃ b3 : Bool, e2 = .returned (.bool b3) ∧
  Calls Try.prog F.cmp_isNaN_int #[.int .i64 y] w1 fun e5 w4 => ∃ b6 : Bool, e5 = .returned (.bool b6) ∧
  (b3 = true → (b6 = true → Q (.int .i64 0) w4) ∧ (b6 = false → Q (.int .i64 (-1)) w4)) ∧
  (
    b3 = false → (b6 = true → Q (.int .i64 1) w4) ∧ (
      b6 = false → ((decide ((x : Int) < y)) = true → Q (.int .i64 (-1)) w4) ∧ (
        (decide ((x : Int) < y)) = false → ((decide ((x : Int) > y)) = true → Q (.int .i64 1) w4) ∧
        ((decide ((x : Int) > y)) = false → Q (.int .i64 0) w4))
      )
    )
def A.cmp_Compare_int : AT := (.seq (.reg []) (.seq (.reg []) (.seq (.reg []) (.seq (.seq (.reg []) (.cond (.seq (.seq (.reg []) (.cond (.seq (.reg []) .leaf) .leaf)) (.seq (.reg []) .leaf)) .leaf)) (.seq (.seq (.reg []) (.cond (.seq (.reg []) .leaf) .leaf)) (.seq (.seq (.reg []) (.cond (.seq (.reg []) .leaf) .leaf)) (.seq (.seq (.reg []) (.cond (.seq (.reg []) .leaf) .leaf)) (.seq (.reg []) .leaf))))))))
theorem W.cmp_Compare_int_eq (x : Int) (y : Int) (w : World) (Q : Value → World → Prop) : W.cmp_Compare_int x y w Q = DF Try.prog tk A.cmp_Compare_int Try.f65 [.int .i64 x, .int .i64 y] w Q := by kernel_rfl
theorem W.cmp_Compare_int_ok (x : Int) (y : Int) (w : World) (Q : Value → World → Prop) (h : W.cmp_Compare_int x y w Q) : Calls Try.prog F.cmp_Compare_int #[.int .i64 x, .int .i64 y] w fun e w1 => ∃ v, e = .returned v ∧ Q v w1 :=
  calls_of_DF hmix Try.func65 (by kernel_rfl) (Eq.mp (W.cmp_Compare_int_eq x y w Q) h)

/-- slices.rotateRight[stanchion/api.Backend] -/
def W.slices_rotateRight_api_Backend (s : Sl) (r : Int) (w : World) (Q : Value → World → Prop) : Prop :=
  Calls Try.prog F.slices_rotateLeft_api_Backend #[.slice s.a s.len s.cap, .int .i64 (IntKind.wrap .i64 (((s.len : Nat) : Int) - r))] w fun e2 w1 =>
  e2 = .returned (.tuple #[]) ∧ Q (.tuple #[]) w1
def A.slices_rotateRight_api_Backend : AT := (.reg [])
theorem W.slices_rotateRight_api_Backend_eq (s : Sl) (r : Int) (w : World) (Q : Value → World → Prop) : W.slices_rotateRight_api_Backend s r w Q = DF Try.prog tk A.slices_rotateRight_api_Backend Try.f68 [.slice s.a s.len s.cap, .int .i64 r] w Q := by kernel_rfl
theorem W.slices_rotateRight_api_Backend_ok (s : Sl) (r : Int) (w : World) (Q : Value → World → Prop) (h : W.slices_rotateRight_api_Backend s r w Q) : Calls Try.prog F.slices_rotateRight_api_Backend #[.slice s.a s.len s.cap, .int .i64 r] w fun e w1 => ∃ v, e = .returned v ∧ Q v w1 :=
  calls_of_DF hmix Try.func68 (by kernel_rfl) (Eq.mp (W.slices_rotateRight_api_Backend_eq s r w Q) h)

/-- slices.IndexFunc[[]stanchion/api.Backend,stanchion/api.Backend] -/
def W.slices_IndexFunc_Sl_api_Backend_api_Backend (s : Sl) (f : Fv) (w : World) (Q : Value → World → Prop) : Prop :=
  ∃ (I1 : Int → World → Prop) (μ2 : Int → World → Nat), I1 0 w ∧ ∀ (n3 : Int) (w4 : World), I1 n3 w4 →
  (
    (decide ((n3 : Int) < ((s.len : Nat) : Int))) = true → ∃ a5 : Addr, s.a = some a5 ∧
    ((0 : Int) ≤ n3 ∧ n3 < ((s.len : Nat) : Int)) ∧ ∃ l6 : List Value, rdCells w4 (a5.add (Int.toNat n3 * 21)) 0 21 = some l6 ∧
    Callable Try.prog f.f ∧ Calls Try.prog f.f (f.pre ++ #[.agg l6.toArray] ++ f.cap) w4 fun e8 w7 =>
    ∃ b9 : Bool, e8 = .returned (.bool b9) ∧ (b9 = true → Q (.int .i64 n3) w7) ∧
    (b9 = false → I1 (IntKind.wrap .i64 (n3 + 1)) w7 ∧ μ2 (IntKind.wrap .i64 (n3 + 1)) w7 < μ2 n3 w4))
  ∧ ((decide ((n3 : Int) < ((s.len : Nat) : Int))) = false → Q (.int .i64 (-1)) w4)
def A.slices_IndexFunc_Sl_api_Backend_api_Backend : AT := (.seq (.reg []) (.seq (.seq (.reg []) (.blk (.loop [(8, (.int .i64))] [0, 1, 7] (.seq (.reg []) (.seq (.cond .leaf .leaf) (.seq (.blk (.seq (.reg []) (.seq (.reg []) (.cond (.seq (.reg []) .leaf) .leaf)))) (.reg []))))))) (.seq (.reg []) .leaf)))
theorem W.slices_IndexFunc_Sl_api_Backend_api_Backend_eq (s : Sl) (f : Fv) (w : World) (Q : Value → World → Prop) : W.slices_IndexFunc_Sl_api_Backend_api_Backend s f w Q = DF Try.prog tk A.slices_IndexFunc_Sl_api_Backend_api_Backend Try.f70 [.slice s.a s.len s.cap, .func (.func f.f) f.pre f.cap] w Q := by kernel_rfl
theorem W.slices_IndexFunc_Sl_api_Backend_api_Backend_ok (s : Sl) (f : Fv) (w : World) (Q : Value → World → Prop) (h : W.slices_IndexFunc_Sl_api_Backend_api_Backend s f w Q) : Calls Try.prog F.slices_IndexFunc_Sl_api_Backend_api_Backend #[.slice s.a s.len s.cap, .func (.func f.f) f.pre f.cap] w fun e w1 => ∃ v, e = .returned v ∧ Q v w1 :=
  calls_of_DF hmix Try.func70 (by kernel_rfl) (Eq.mp (W.slices_IndexFunc_Sl_api_Backend_api_Backend_eq s f w Q) h)

/-- slices.pdqsortOrdered[int] -/
def W.slices_pdqsortOrdered_int (data : Sl) (a : Int) (b : Int) (limit : Int) (w : World) (Q : Value → World → Prop) : Prop :=
  ∃ (I1 : Int → Int → Int → Bool → Bool → World → Prop) (μ2 : Int → Int → Int → Bool → Bool → World → Nat), I1 a b limit true true w ∧
  ∀ (n3 : Int) (n4 : Int) (n5 : Int) (b6 : Bool) (b7 : Bool) (w8 : World), I1 n3 n4 n5 b6 b7 w8 →
  (
    (decide (((IntKind.wrap .i64 (n4 - n3)) : Int) ≤ 12)) = true → Calls Try.prog F.slices_insertionSortOrdered_int #[.slice data.a data.len data.cap, .int .i64 n3, .int .i64 n4] w8 fun e10 w9 =>
    e10 = .returned (.tuple #[]) ∧ Q (.tuple #[]) w9)
  ∧ (
    (decide (((IntKind.wrap .i64 (n4 - n3)) : Int) ≤ 12)) = false → (
      ((n5 : Int) == 0) = true → Calls Try.prog F.slices_heapSortOrdered_int #[.slice data.a data.len data.cap, .int .i64 n3, .int .i64 n4] w8 fun e12 w11 =>
      e12 = .returned (.tuple #[]) ∧ Q (.tuple #[]) w11)
    ∧ (
      ((n5 : Int) == 0) = false → Jn (
        fun k13 : Int → World → Prop => (
          (!b6) = true → Calls Try.prog F.slices_breakPatternsOrdered_int #[.slice data.a data.len data.cap, .int .i64 n3, .int .i64 n4] w8 fun e15 w14 =>
          e15 = .returned (.tuple #[]) ∧ k13 (IntKind.wrap .i64 (n5 - 1)) w14)
        ∧ ((!b6) = false → k13 n5 w8))
      (
        fun (n16 : Int) (w17 : World) => Calls Try.prog F.slices_choosePivotOrdered_int #[.slice data.a data.len data.cap, .int .i64 n3, .int .i64 n4] w17 fun e19 w18 =>
        ∃ n20 : Int, ∃ n21 : Int, e19 = .returned (.tuple #[.int .i64 n20, .int .i64 n21]) ∧
        Jn (
          fun k22 : Int → Int → World → Prop => (
            ((n21 : Int) == 2) = true → Calls Try.prog F.slices_reverseRangeOrdered_int #[.slice data.a data.len data.cap, .int .i64 n3, .int .i64 n4] w18 fun e24 w23 =>
            e24 = .returned (.tuple #[]) ∧ k22 (IntKind.wrap .i64 ((IntKind.wrap .i64 (n4 - 1)) - (IntKind.wrap .i64 (n20 - n3)))) 1 w23)
          ∧ (((n21 : Int) == 2) = false → k22 n20 n21 w18))
        (
          fun (n25 : Int) (n26 : Int) (w27 : World) => Jn (
            fun k28 : World → Prop => (
              ((b6 && b7) && ((n26 : Int) == 1)) = true → Calls Try.prog F.slices_partialInsertionSortOrdered_int #[.slice data.a data.len data.cap, .int .i64 n3, .int .i64 n4] w27 fun e30 w29 =>
              ∃ b31 : Bool, e30 = .returned (.bool b31) ∧ (b31 = true → Q (.tuple #[]) w29) ∧
              (b31 = false → k28 w29))
            ∧ (((b6 && b7) && ((n26 : Int) == 1)) = false → k28 w27))
          (
            fun  (w32 : World) => Jn (
              fun k33 : Bool → World → Prop => Nx (w32.drew) fun w34 => (
                (decide ((n3 : Int) > 0)) = true → ∃ a35 : Addr, data.a = some a35 ∧ ((0 : Int) ≤ (IntKind.wrap .i64 (n3 - 1)) ∧ (IntKind.wrap .i64 (n3 - 1)) < ((data.len : Nat) : Int)) ∧
                ¬ False ∧ ∃ n36 : Int, w34.cell? (a35.add (Int.toNat (IntKind.wrap .i64 (n3 - 1)) * 1)) = some (.int .i64 n36) ∧
                ∃ a37 : Addr, data.a = some a37 ∧ ((0 : Int) ≤ n25 ∧ n25 < ((data.len : Nat) : Int)) ∧
                ¬ False ∧ ∃ n38 : Int, w34.cell? (a37.add (Int.toNat n25 * 1)) = some (.int .i64 n38) ∧
                Calls Try.prog F.cmp_Less_int #[.int .i64 n36, .int .i64 n38] w34 fun e40 w39 =>
                ∃ b41 : Bool, e40 = .returned (.bool b41) ∧ k33 (!b41) w39)
              ∧ ((decide ((n3 : Int) > 0)) = false → k33 false w34))
            (
              fun (b42 : Bool) (w43 : World) => (
                b42 = true → Calls Try.prog F.slices_partitionEqualOrdered_int #[.slice data.a data.len data.cap, .int .i64 n3, .int .i64 n4, .int .i64 n25] w43 fun e45 w44 =>
                ∃ n46 : Int, e45 = .returned (.int .i64 n46) ∧ I1 n46 n4 n16 b6 b7 w44 ∧ μ2 n46 n4 n16 b6 b7 w44 < μ2 n3 n4 n5 b6 b7 w8)
              ∧ (
                b42 = false → Calls Try.prog F.slices_partitionOrdered_int #[.slice data.a data.len data.cap, .int .i64 n3, .int .i64 n4, .int .i64 n25] w43 fun e48 w47 =>
                ∃ n49 : Int, ∃ b50 : Bool, e48 = .returned (.tuple #[.int .i64 n49, .bool b50]) ∧
                (8 : Int) ≠ 0 ∧ (
                  (decide (((IntKind.wrap .i64 (n49 - n3)) : Int) < (IntKind.wrap .i64 (n4 - n49)))) = true →
                  Calls Try.prog F.slices_pdqsortOrdered_int #[.slice data.a data.len data.cap, .int .i64 n3, .int .i64 n49, .int .i64 n16] w47 fun e52 w51 =>
                  e52 = .returned (.tuple #[]) ∧ I1 (IntKind.wrap .i64 (n49 + 1)) n4 n16 (
                    decide (
                      ((IntKind.wrap .i64 (n49 - n3)) : Int) ≥ (IntKind.wrap .i64 (Int.tdiv (IntKind.wrap .i64 (n4 - n3)) 8)))
                    )
                  b50 w51 ∧ μ2 (IntKind.wrap .i64 (n49 + 1)) n4 n16 (
                    decide (
                      ((IntKind.wrap .i64 (n49 - n3)) : Int) ≥ (IntKind.wrap .i64 (Int.tdiv (IntKind.wrap .i64 (n4 - n3)) 8)))
                    )
                  b50 w51 < μ2 n3 n4 n5 b6 b7 w8)
                ∧ (
                  (decide (((IntKind.wrap .i64 (n49 - n3)) : Int) < (IntKind.wrap .i64 (n4 - n49)))) = false →
                  Calls Try.prog F.slices_pdqsortOrdered_int #[.slice data.a data.len data.cap, .int .i64 (IntKind.wrap .i64 (n49 + 1)), .int .i64 n4, .int .i64 n16] w47 fun e54 w53 =>
                  e54 = .returned (.tuple #[]) ∧ I1 n3 n49 n16 (
                    decide (
                      ((IntKind.wrap .i64 (n4 - n49)) : Int) ≥ (IntKind.wrap .i64 (Int.tdiv (IntKind.wrap .i64 (n4 - n3)) 8)))
                    )
                  b50 w53 ∧ μ2 n3 n49 n16 (
                    decide (
                      ((IntKind.wrap .i64 (n4 - n49)) : Int) ≥ (IntKind.wrap .i64 (Int.tdiv (IntKind.wrap .i64 (n4 - n3)) 8)))
                    )
                  b50 w53 < μ2 n3 n4 n5 b6 b7 w8)
                )
              )
            )
          )
        )
      )
    )
def A.slices_pdqsortOrdered_int : AT := (.seq (.reg []) (.seq (.reg []) (.blk (.loop [(1, (.int .i64)), (2, (.int .i64)), (3, (.int .i64)), (8, .bool), (9, .bool)] [0] (.blk (.seq (.reg []) (.seq (.seq (.reg []) (.cond (.seq (.reg []) .leaf) .leaf)) (.seq (.seq (.reg []) (.cond (.seq (.reg []) .leaf) .leaf)) (.seq (.jk [(3, (.int .i64))] [0, 1, 2, 8, 9, 10] (.seq (.reg []) (.cond (.seq (.reg []) (.reg [])) .leaf))) (.seq (.reg []) (.seq (.jk [(11, (.int .i64)), (12, (.int .i64))] [0, 1, 2, 3, 8, 9, 10] (.seq (.reg []) (.cond (.seq (.reg []) (.seq (.reg []) (.reg []))) .leaf))) (.seq (.jk [] [0, 1, 2, 3, 8, 9, 10, 11] (.seq (.reg [.run, .run, .pure 1, .run, .run, .pure 2]) (.cond (.seq (.reg []) (.cond .leaf .leaf)) .leaf))) (.seq (.seq (.jk [(87, .bool)] [0, 1, 2, 3, 8, 9, 10, 11] (.drw 12 false ⟨[0, 1, 2, 4, 4, 20, 44, 68, 4, 4, 772, 1028, 2180, 4100, 8196], [0, 1, 2, 4, 4, 20, 44, 68, 4, 4, 772, 1028, 2180, 4100, 8196]⟩ [9444732965739290427392, 18889465931478580854784, 37778931862957161709568, 75557863725914323419136, 151115727451828646838272, 302231454903657293676544, 604462909807314587353088, 1208925819614629174706176, 2417851639229258349412352, 4835703278458516698824704, 9671406556917033397649408, 19342813113834066795298816, 38685626227668133590597632, 77371252455336267181195264, 154742504910672534362390528] [2, 9444732965739290427392, 18889465931478580854784, 37778931862957161709569, 37778931862957161709570, 188894659314785808547840, 415568250492528778805248, 642241841670271749062656, 37778931862957161709569, 37778931862957161711616, 7291333849550732209946624, 9709185488779990559358976, 20589517865311653131714560, 38723405159531090752307200, 77409031387199224342904832] (.take 0 (.take 1 (.take 2 (.sp 75 (.take 3 (.take 4 (.take 5 (.take 6 (.take 7 (.take 8 (.take 9 (.take 10 (.take 11 (.tail [.run, .run, .run])))))))))) (.take 3 (.take 4 (.take 5 (.take 6 (.take 7 (.take 8 (.take 9 (.take 10 (.take 11 (.tail [.run, .run, .run])))))))))))))))) (.cond (.seq (.reg []) (.seq (.reg []) .leaf)) .leaf)) (.seq (.reg []) (.seq (.reg []) (.seq (.reg []) (.seq (.reg []) (.seq (.reg []) (.cond (.seq (.reg []) (.seq (.reg []) (.reg []))) (.seq (.reg []) (.seq (.reg []) (.reg []))))))))))))))))))))))
theorem W.slices_pdqsortOrdered_int_eq (data : Sl) (a : Int) (b : Int) (limit : Int) (w : World) (Q : Value → World → Prop) : W.slices_pdqsortOrdered_int data a b limit w Q = DF Try.prog tk A.slices_pdqsortOrdered_int Try.f73 [.slice data.a data.len data.cap, .int .i64 a, .int .i64 b, .int .i64 limit] w Q := by kernel_rfl
theorem W.slices_pdqsortOrdered_int_ok (data : Sl) (a : Int) (b : Int) (limit : Int) (w : World) (Q : Value → World → Prop) (h : W.slices_pdqsortOrdered_int data a b limit w Q) : Calls Try.prog F.slices_pdqsortOrdered_int #[.slice data.a data.len data.cap, .int .i64 a, .int .i64 b, .int .i64 limit] w fun e w1 => ∃ v, e = .returned v ∧ Q v w1 :=
  calls_of_DF hmix Try.func73 (by kernel_rfl) (Eq.mp (W.slices_pdqsortOrdered_int_eq data a b limit w Q) h)

/-- math/bits.Len -/
def W.math_bits_Len (x : Int) (w : World) (Q : Value → World → Prop) : Prop :=
  (
    false = true → Calls Try.prog F.math_bits_Len32 #[.int .u32 (IntKind.wrap .u32 x)] w fun e2 w1 =>
    ∃ n3 : Int, e2 = .returned (.int .i64 n3) ∧ Q (.int .i64 n3) w1)
  ∧ (
    false = false → Calls Try.prog F.math_bits_Len64 #[.int .u64 x] w fun e5 w4 =>
    ∃ n6 : Int, e5 = .returned (.int .i64 n6) ∧ Q (.int .i64 n6) w4)
def A.math_bits_Len : AT := (.seq (.reg []) (.seq (.cond (.seq (.reg []) .leaf) .leaf) (.seq (.reg []) .leaf)))
theorem W.math_bits_Len_eq (x : Int) (w : World) (Q : Value → World → Prop) : W.math_bits_Len x w Q = DF Try.prog tk A.math_bits_Len Try.f74 [.int .u64 x] w Q := by kernel_rfl
theorem W.math_bits_Len_ok (x : Int) (w : World) (Q : Value → World → Prop) (h : W.math_bits_Len x w Q) : Calls Try.prog F.math_bits_Len #[.int .u64 x] w fun e w1 => ∃ v, e = .returned v ∧ Q v w1 :=
  calls_of_DF hmix Try.func74 (by kernel_rfl) (Eq.mp (W.math_bits_Len_eq x w Q) h)

/-- cmp.isNaN[int] -/
def W.cmp_isNaN_int (x : Int) (w : World) (Q : Value → World → Prop) : Prop :=
  Q (.bool ((x : Int) != x)) w
def A.cmp_isNaN_int : AT := (.seq (.reg []) (.seq (.reg []) .leaf))
theorem W.cmp_isNaN_int_eq (x : Int) (w : World) (Q : Value → World → Prop) : W.cmp_isNaN_int x w Q = DF Try.prog tk A.cmp_isNaN_int Try.f75 [.int .i64 x] w Q := by kernel_rfl
theorem W.cmp_isNaN_int_ok (x : Int) (w : World) (Q : Value → World → Prop) (h : W.cmp_isNaN_int x w Q) : Calls Try.prog F.cmp_isNaN_int #[.int .i64 x] w fun e w1 => ∃ v, e = .returned v ∧ Q v w1 :=
  calls_of_DF hmix Try.func75 (by kernel_rfl) (Eq.mp (W.cmp_isNaN_int_eq x w Q) h)

/-- slices.rotateLeft[stanchion/api.Backend] -/
def W.slices_rotateLeft_api_Backend (s : Sl) (r : Int) (w : World) (Q : Value → World → Prop) : Prop :=
  ((0 : Int) ≤ r ∧ r ≤ ((s.cap : Nat) : Int)) ∧ Calls Try.prog F.slices_Reverse_Sl_api_Backend_api_Backend #[.slice (cutA s.a 21 0 s.cap) ((Int.toNat r) - 0) (s.cap - 0)] w fun e2 w1 =>
  e2 = .returned (.tuple #[]) ∧ ((0 : Int) ≤ r ∧ r ≤ ((s.len : Nat) : Int)) ∧
  Calls Try.prog F.slices_Reverse_Sl_api_Backend_api_Backend #[.slice (cutA s.a 21 (Int.toNat r) s.cap) (s.len - (Int.toNat r)) (s.cap - (Int.toNat r))] w1 fun e4 w3 =>
  e4 = .returned (.tuple #[]) ∧ Calls Try.prog F.slices_Reverse_Sl_api_Backend_api_Backend #[.slice s.a s.len s.cap] w3 fun e6 w5 =>
  e6 = .returned (.tuple #[]) ∧ Q (.tuple #[]) w5
def A.slices_rotateLeft_api_Backend : AT := (.seq (.reg []) (.seq (.reg []) (.reg [])))
theorem W.slices_rotateLeft_api_Backend_eq (s : Sl) (r : Int) (w : World) (Q : Value → World → Prop) : W.slices_rotateLeft_api_Backend s r w Q = DF Try.prog tk A.slices_rotateLeft_api_Backend Try.f76 [.slice s.a s.len s.cap, .int .i64 r] w Q := by kernel_rfl
theorem W.slices_rotateLeft_api_Backend_ok (s : Sl) (r : Int) (w : World) (Q : Value → World → Prop) (h : W.slices_rotateLeft_api_Backend s r w Q) : Calls Try.prog F.slices_rotateLeft_api_Backend #[.slice s.a s.len s.cap, .int .i64 r] w fun e w1 => ∃ v, e = .returned v ∧ Q v w1 :=
  calls_of_DF hmix Try.func76 (by kernel_rfl) (Eq.mp (W.slices_rotateLeft_api_Backend_eq s r w Q) h)

/-- slices.insertionSortOrdered[int] -/
def W.slices_insertionSortOrdered_int (data : Sl) (a : Int) (b : Int) (w : World) (Q : Value → World → Prop) : Prop :=
  ∃ (I1 : Int → World → Prop) (μ2 : Int → World → Nat), I1 (IntKind.wrap .i64 (a + 1)) w ∧
  ∀ (n3 : Int) (w4 : World), I1 n3 w4 → (
    (decide ((n3 : Int) < b)) = true → ∃ (I5 : Int → World → Prop) (μ6 : Int → World → Nat), I5 n3 w4 ∧
    ∀ (n7 : Int) (w8 : World), I5 n7 w8 → Nx (w8.drew) fun w9 => (
      (decide ((n7 : Int) > a)) = true → ∃ a10 : Addr, data.a = some a10 ∧ ((0 : Int) ≤ n7 ∧ n7 < ((data.len : Nat) : Int)) ∧
      ¬ False ∧ ∃ n11 : Int, w9.cell? (a10.add (Int.toNat n7 * 1)) = some (.int .i64 n11) ∧
      ∃ a12 : Addr, data.a = some a12 ∧ ((0 : Int) ≤ (IntKind.wrap .i64 (n7 - 1)) ∧ (IntKind.wrap .i64 (n7 - 1)) < ((data.len : Nat) : Int)) ∧
      ¬ False ∧ ∃ n13 : Int, w9.cell? (a12.add (Int.toNat (IntKind.wrap .i64 (n7 - 1)) * 1)) = some (.int .i64 n13) ∧
      Calls Try.prog F.cmp_Less_int #[.int .i64 n11, .int .i64 n13] w9 fun e15 w14 =>
      ∃ b16 : Bool, e15 = .returned (.bool b16) ∧ (
        b16 = true → Nx (w14.drew) fun w17 => ∃ W18 : Nat → Prop, ∃ a19 : Addr, data.a = some a19 ∧
        ((0 : Int) ≤ (IntKind.wrap .i64 (n7 - 1)) ∧ (IntKind.wrap .i64 (n7 - 1)) < ((data.len : Nat) : Int)) ∧
        ¬ W18 (a19.add (Int.toNat (IntKind.wrap .i64 (n7 - 1)) * 1)).block ∧ ∃ n20 : Int, w17.cell? (a19.add (Int.toNat (IntKind.wrap .i64 (n7 - 1)) * 1)) = some (.int .i64 n20) ∧
        ∃ a21 : Addr, data.a = some a21 ∧ ((0 : Int) ≤ n7 ∧ n7 < ((data.len : Nat) : Int)) ∧
        ¬ W18 (a21.add (Int.toNat n7 * 1)).block ∧ ∃ n22 : Int, w17.cell? (a21.add (Int.toNat n7 * 1)) = some (.int .i64 n22) ∧
        ∃ a23 : Addr, data.a = some a23 ∧ ((0 : Int) ≤ n7 ∧ n7 < ((data.len : Nat) : Int)) ∧
        (∃ u : Value, w17.cell? (a23.add (Int.toNat n7 * 1)) = some u) ∧ w17.frozen? (a23.add (Int.toNat n7 * 1)) = false ∧
        Nx (w17.setCell (a23.add (Int.toNat n7 * 1)) (.int .i64 n20)) fun w24 => ∃ a25 : Addr, data.a = some a25 ∧
        ((0 : Int) ≤ (IntKind.wrap .i64 (n7 - 1)) ∧ (IntKind.wrap .i64 (n7 - 1)) < ((data.len : Nat) : Int)) ∧
        (∃ u : Value, w24.cell? (a25.add (Int.toNat (IntKind.wrap .i64 (n7 - 1)) * 1)) = some u) ∧
        w24.frozen? (a25.add (Int.toNat (IntKind.wrap .i64 (n7 - 1)) * 1)) = false ∧
        Nx (w24.setCell (a25.add (Int.toNat (IntKind.wrap .i64 (n7 - 1)) * 1)) (.int .i64 n22)) fun w26 =>
        I5 (IntKind.wrap .i64 (n7 - 1)) w26 ∧ μ6 (IntKind.wrap .i64 (n7 - 1)) w26 < μ6 n7 w8)
      ∧ (b16 = false → I1 (IntKind.wrap .i64 (n3 + 1)) w14 ∧ μ2 (IntKind.wrap .i64 (n3 + 1)) w14 < μ2 n3 w4))
    ∧ (
      (decide ((n7 : Int) > a)) = false → (
        false = true → Nx (w9.drew) fun w27 => ∃ W28 : Nat → Prop, ∃ a29 : Addr, data.a = some a29 ∧
        ((0 : Int) ≤ (IntKind.wrap .i64 (n7 - 1)) ∧ (IntKind.wrap .i64 (n7 - 1)) < ((data.len : Nat) : Int)) ∧
        ¬ W28 (a29.add (Int.toNat (IntKind.wrap .i64 (n7 - 1)) * 1)).block ∧ ∃ n30 : Int, w27.cell? (a29.add (Int.toNat (IntKind.wrap .i64 (n7 - 1)) * 1)) = some (.int .i64 n30) ∧
        ∃ a31 : Addr, data.a = some a31 ∧ ((0 : Int) ≤ n7 ∧ n7 < ((data.len : Nat) : Int)) ∧
        ¬ W28 (a31.add (Int.toNat n7 * 1)).block ∧ ∃ n32 : Int, w27.cell? (a31.add (Int.toNat n7 * 1)) = some (.int .i64 n32) ∧
        ∃ a33 : Addr, data.a = some a33 ∧ ((0 : Int) ≤ n7 ∧ n7 < ((data.len : Nat) : Int)) ∧
        (∃ u : Value, w27.cell? (a33.add (Int.toNat n7 * 1)) = some u) ∧ w27.frozen? (a33.add (Int.toNat n7 * 1)) = false ∧
        Nx (w27.setCell (a33.add (Int.toNat n7 * 1)) (.int .i64 n30)) fun w34 => ∃ a35 : Addr, data.a = some a35 ∧
        ((0 : Int) ≤ (IntKind.wrap .i64 (n7 - 1)) ∧ (IntKind.wrap .i64 (n7 - 1)) < ((data.len : Nat) : Int)) ∧
        (∃ u : Value, w34.cell? (a35.add (Int.toNat (IntKind.wrap .i64 (n7 - 1)) * 1)) = some u) ∧
        w34.frozen? (a35.add (Int.toNat (IntKind.wrap .i64 (n7 - 1)) * 1)) = false ∧
        Nx (w34.setCell (a35.add (Int.toNat (IntKind.wrap .i64 (n7 - 1)) * 1)) (.int .i64 n32)) fun w36 =>
        I5 (IntKind.wrap .i64 (n7 - 1)) w36 ∧ μ6 (IntKind.wrap .i64 (n7 - 1)) w36 < μ6 n7 w8)
      ∧ (false = false → I1 (IntKind.wrap .i64 (n3 + 1)) w9 ∧ μ2 (IntKind.wrap .i64 (n3 + 1)) w9 < μ2 n3 w4))
    )
  ∧ ((decide ((n3 : Int) < b)) = false → Q (.tuple #[]) w4)
def A.slices_insertionSortOrdered_int : AT := (.seq (.reg []) (.blk (.loop [(6, (.int .i64))] [0, 1, 2] (.seq (.seq (.reg []) (.cond .leaf .leaf)) (.seq (.blk (.seq (.reg []) (.blk (.loop [(7, (.int .i64))] [0, 1, 2, 6] (.seq (.seq (.drw 13 false ⟨[0, 0, 3, 4, 8, 8, 56, 72, 8, 8, 520, 1288, 2056, 4232, 8200], [0, 0, 3, 4, 8, 8, 56, 72, 8, 8, 520, 1288, 2056, 4232, 8200]⟩ [65536, 131072, 262144, 524288, 1048576, 2097152, 4194304, 8388608, 16777216, 33554432, 67108864, 134217728, 268435456, 536870912, 1073741824] [128, 2, 196608, 262144, 524289, 524416, 3670016, 4718592, 524289, 524416, 34078720, 84410368, 134742016, 277348352, 537395200] (.take 0 (.take 1 (.take 2 (.take 3 (.sp 19 (.take 4 (.take 5 (.take 6 (.take 7 (.take 8 (.take 9 (.take 10 (.take 11 (.take 12 (.tail [.run, .run])))))))))) (.take 4 (.take 5 (.take 6 (.take 7 (.take 8 (.take 9 (.take 10 (.take 11 (.take 12 (.tail [.run, .run])))))))))))))))) (.cond .leaf .leaf)) (.seq (.blk (.drw 16 true ⟨[0, 0, 0, 0, 8, 0, 0, 64, 160, 256, 0, 0, 3072, 4096, 9187, 25571, 65535, 131071], [0, 0, 0, 0, 8, 0, 0, 64, 160, 256, 0, 0, 3072, 4096, 3, 16896, 20, 73728]⟩ [8589934592, 17179869184, 34359738368, 68719476736, 137438953472, 274877906944, 549755813888, 1099511627776, 2199023255552, 4398046511104, 8796093022208, 17592186044416, 35184372088832, 70368744177664, 140737488355328, 0, 281474976710656, 0] [1, 128, 1, 128, 68719476736, 1, 128, 549755813888, 1374389534720, 2199023255552, 1, 128, 26388279066624, 35184372088832, 25769803776, 145135534866432, 171798691840, 351843720888320] (.take 0 (.take 1 (.take 2 (.take 3 (.take 4 (.take 5 (.take 6 (.take 7 (.take 8 (.take 9 (.take 10 (.take 11 (.take 12 (.take 13 (.take 14 (.out 15 false (.tail [.run, .run]))))))))))))))))))) (.reg []))))))) (.reg []))))))
theorem W.slices_insertionSortOrdered_int_eq (data : Sl) (a : Int) (b : Int) (w : World) (Q : Value → World → Prop) : W.slices_insertionSortOrdered_int data a b w Q = DF Try.prog tk A.slices_insertionSortOrdered_int Try.f77 [.slice data.a data.len data.cap, .int .i64 a, .int .i64 b] w Q := by kernel_rfl
theorem W.slices_insertionSortOrdered_int_ok (data : Sl) (a : Int) (b : Int) (w : World) (Q : Value → World → Prop) (h : W.slices_insertionSortOrdered_int data a b w Q) : Calls Try.prog F.slices_insertionSortOrdered_int #[.slice data.a data.len data.cap, .int .i64 a, .int .i64 b] w fun e w1 => ∃ v, e = .returned v ∧ Q v w1 :=
  calls_of_DF hmix Try.func77 (by kernel_rfl) (Eq.mp (W.slices_insertionSortOrdered_int_eq data a b w Q) h)

/-- slices.heapSortOrdered[int] -/
def W.slices_heapSortOrdered_int (data : Sl) (a : Int) (b : Int) (w : World) (Q : Value → World → Prop) : Prop :=
  (2 : Int) ≠ 0 ∧ ∃ (I1 : Int → World → Prop) (μ2 : Int → World → Nat), I1 (IntKind.wrap .i64 (Int.tdiv (IntKind.wrap .i64 ((IntKind.wrap .i64 (b - a)) - 1)) 2)) w ∧
  ∀ (n3 : Int) (w4 : World), I1 n3 w4 → (
    (decide ((n3 : Int) ≥ 0)) = true → Calls Try.prog F.slices_siftDownOrdered_int #[.slice data.a data.len data.cap, .int .i64 n3, .int .i64 (IntKind.wrap .i64 (b - a)), .int .i64 a] w4 fun e6 w5 =>
    e6 = .returned (.tuple #[]) ∧ I1 (IntKind.wrap .i64 (n3 - 1)) w5 ∧ μ2 (IntKind.wrap .i64 (n3 - 1)) w5 < μ2 n3 w4)
  ∧ (
    (decide ((n3 : Int) ≥ 0)) = false → ∃ (I7 : Int → World → Prop) (μ8 : Int → World → Nat), I7 (IntKind.wrap .i64 ((IntKind.wrap .i64 (b - a)) - 1)) w4 ∧
    ∀ (n9 : Int) (w10 : World), I7 n9 w10 → (
      (decide ((n9 : Int) ≥ 0)) = true → Nx (w10.drew) fun w11 => ∃ W12 : Nat →
      Prop, ∃ a13 : Addr, data.a = some a13 ∧ ((0 : Int) ≤ (IntKind.wrap .i64 (a + n9)) ∧ (IntKind.wrap .i64 (a + n9)) < ((data.len : Nat) : Int)) ∧
      ¬ W12 (a13.add (Int.toNat (IntKind.wrap .i64 (a + n9)) * 1)).block ∧ ∃ n14 : Int, w11.cell? (a13.add (Int.toNat (IntKind.wrap .i64 (a + n9)) * 1)) = some (.int .i64 n14) ∧
      ∃ a15 : Addr, data.a = some a15 ∧ ((0 : Int) ≤ a ∧ a < ((data.len : Nat) : Int)) ∧
      ¬ W12 (a15.add (Int.toNat a * 1)).block ∧ ∃ n16 : Int, w11.cell? (a15.add (Int.toNat a * 1)) = some (.int .i64 n16) ∧
      ∃ a17 : Addr, data.a = some a17 ∧ ((0 : Int) ≤ a ∧ a < ((data.len : Nat) : Int)) ∧
      (∃ u : Value, w11.cell? (a17.add (Int.toNat a * 1)) = some u) ∧ w11.frozen? (a17.add (Int.toNat a * 1)) = false ∧
      Nx (w11.setCell (a17.add (Int.toNat a * 1)) (.int .i64 n14)) fun w18 => ∃ a19 : Addr, data.a = some a19 ∧
      ((0 : Int) ≤ (IntKind.wrap .i64 (a + n9)) ∧ (IntKind.wrap .i64 (a + n9)) < ((data.len : Nat) : Int)) ∧
      (∃ u : Value, w18.cell? (a19.add (Int.toNat (IntKind.wrap .i64 (a + n9)) * 1)) = some u) ∧
      w18.frozen? (a19.add (Int.toNat (IntKind.wrap .i64 (a + n9)) * 1)) = false ∧
      Nx (w18.setCell (a19.add (Int.toNat (IntKind.wrap .i64 (a + n9)) * 1)) (.int .i64 n16)) fun w20 =>
      Calls Try.prog F.slices_siftDownOrdered_int #[.slice data.a data.len data.cap, .int .i64 0, .int .i64 n9, .int .i64 a] w20 fun e22 w21 =>
      e22 = .returned (.tuple #[]) ∧ I7 (IntKind.wrap .i64 (n9 - 1)) w21 ∧ μ8 (IntKind.wrap .i64 (n9 - 1)) w21 < μ8 n9 w10)
    ∧ ((decide ((n9 : Int) ≥ 0)) = false → Q (.tuple #[]) w10))
def A.slices_heapSortOrdered_int : AT := (.seq (.reg []) (.seq (.reg []) (.seq (.reg []) (.seq (.seq (.reg []) (.blk (.loop [(9, (.int .i64))] [0, 6, 7, 8] (.seq (.seq (.reg []) (.cond .leaf .leaf)) (.seq (.blk (.reg [])) (.reg [])))))) (.seq (.reg []) (.blk (.loop [(10, (.int .i64))] [0, 6, 7] (.seq (.seq (.reg []) (.cond .leaf .leaf)) (.seq (.blk (.seq (.drw 18 true ⟨[0, 0, 0, 0, 0, 24, 0, 0, 0, 384, 576, 1024, 0, 0, 12288, 16384, 36803, 102339, 262143, 524287], [0, 0, 0, 0, 0, 24, 0, 0, 0, 384, 576, 1024, 0, 0, 12288, 16384, 3, 67584, 36, 294912]⟩ [8589934592, 17179869184, 34359738368, 68719476736, 137438953472, 274877906944, 549755813888, 1099511627776, 2199023255552, 4398046511104, 8796093022208, 17592186044416, 35184372088832, 70368744177664, 140737488355328, 281474976710656, 562949953421312, 0, 1125899906842624, 0] [1, 64, 1, 64, 1024, 206158430208, 1, 64, 1024, 3298534883328, 4947802324992, 8796093022208, 1, 64, 105553116266496, 140737488355328, 25769803776, 580542139465728, 309237645312, 1407374883553280] (.take 0 (.take 1 (.take 2 (.take 3 (.take 4 (.take 5 (.take 6 (.take 7 (.take 8 (.take 9 (.take 10 (.take 11 (.take 12 (.take 13 (.take 14 (.take 15 (.take 16 (.out 17 false (.tail [.run, .run])))))))))))))))))))) (.reg []))) (.reg []))))))))))
theorem W.slices_heapSortOrdered_int_eq (data : Sl) (a : Int) (b : Int) (w : World) (Q : Value → World → Prop) : W.slices_heapSortOrdered_int data a b w Q = DF Try.prog tk A.slices_heapSortOrdered_int Try.f78 [.slice data.a data.len data.cap, .int .i64 a, .int .i64 b] w Q := by kernel_rfl
theorem W.slices_heapSortOrdered_int_ok (data : Sl) (a : Int) (b : Int) (w : World) (Q : Value → World → Prop) (h : W.slices_heapSortOrdered_int data a b w Q) : Calls Try.prog F.slices_heapSortOrdered_int #[.slice data.a data.len data.cap, .int .i64 a, .int .i64 b] w fun e w1 => ∃ v, e = .returned v ∧ Q v w1 :=
  calls_of_DF hmix Try.func78 (by kernel_rfl) (Eq.mp (W.slices_heapSortOrdered_int_eq data a b w Q) h)

/-- slices.breakPatternsOrdered[int] -/
def W.slices_breakPatternsOrdered_int (data : Sl) (a : Int) (b : Int) (w : World) (Q : Value → World → Prop) : Prop :=
  (
    (decide (((IntKind.wrap .i64 (b - a)) : Int) ≥ 8)) = true → Nx (w.alloc (.cells #[.int .u64 0] Ty.slices_xorshift)) fun w1 =>
    (∃ u : Value, w1.cell? ⟨w.heap.size, 0, none⟩ = some u) ∧ w1.frozen? ⟨w.heap.size, 0, none⟩ = false ∧
    Nx (w1.setCell ⟨w.heap.size, 0, none⟩ (.int .u64 (IntKind.wrap .u64 (IntKind.wrap .i64 (b - a))))) fun w2 =>
    Calls Try.prog F.slices_nextPowerOfTwo #[.int .i64 (IntKind.wrap .i64 (b - a))] w2 fun e4 w3 =>
    ∃ n5 : Int, e4 = .returned (.int .u64 n5) ∧ (4 : Int) ≠ 0 ∧ ∃ (I6 : Int → World → Prop) (μ7 : Int → World → Nat), I6 (
      IntKind.wrap .i64 (
        (
          IntKind.wrap .i64 (a + (IntKind.wrap .i64 ((IntKind.wrap .i64 (Int.tdiv (IntKind.wrap .i64 (b - a)) 4)) * 2))))
        - 1)
      )
    w3 ∧ ∀ (n8 : Int) (w9 : World), I6 n8 w9 → (4 : Int) ≠ 0 ∧ (
      (
        decide (
          (n8 : Int) ≤ (
            IntKind.wrap .i64 (
              (
                IntKind.wrap .i64 (a + (IntKind.wrap .i64 ((IntKind.wrap .i64 (Int.tdiv (IntKind.wrap .i64 (b - a)) 4)) * 2))))
              + 1)
            )
          )
        )
      = true → Calls Try.prog F.slices_xorshift_Next #[.pointer (some ⟨w.heap.size, 0, none⟩)] w9 fun e11 w10 =>
      ∃ n12 : Int, e11 = .returned (.int .u64 n12) ∧ Jn (
        fun k13 : Int → World → Prop => (
          (
            decide (
              ((IntKind.wrap .i64 (bAnd .u64 n12 (IntKind.wrap .u64 (n5 - 1)))) : Int) ≥ (IntKind.wrap .i64 (b - a)))
            )
          = true → k13 (
            IntKind.wrap .i64 ((IntKind.wrap .i64 (bAnd .u64 n12 (IntKind.wrap .u64 (n5 - 1)))) - (IntKind.wrap .i64 (b - a))))
          w10)
        ∧ (
          (
            decide (
              ((IntKind.wrap .i64 (bAnd .u64 n12 (IntKind.wrap .u64 (n5 - 1)))) : Int) ≥ (IntKind.wrap .i64 (b - a)))
            )
          = false → k13 (IntKind.wrap .i64 (bAnd .u64 n12 (IntKind.wrap .u64 (n5 - 1)))) w10)
        )
      (
        fun (n14 : Int) (w15 : World) => Nx (w15.drew) fun w16 => ∃ W17 : Nat → Prop, ∃ a18 : Addr, data.a = some a18 ∧
        (
          (0 : Int) ≤ (IntKind.wrap .i64 (a + n14)) ∧ (IntKind.wrap .i64 (a + n14)) < ((data.len : Nat) : Int))
        ∧ ¬ W17 (a18.add (Int.toNat (IntKind.wrap .i64 (a + n14)) * 1)).block ∧ ∃ n19 : Int, w16.cell? (a18.add (Int.toNat (IntKind.wrap .i64 (a + n14)) * 1)) = some (.int .i64 n19) ∧
        ∃ a20 : Addr, data.a = some a20 ∧ ((0 : Int) ≤ n8 ∧ n8 < ((data.len : Nat) : Int)) ∧
        ¬ W17 (a20.add (Int.toNat n8 * 1)).block ∧ ∃ n21 : Int, w16.cell? (a20.add (Int.toNat n8 * 1)) = some (.int .i64 n21) ∧
        ∃ a22 : Addr, data.a = some a22 ∧ ((0 : Int) ≤ n8 ∧ n8 < ((data.len : Nat) : Int)) ∧
        (∃ u : Value, w16.cell? (a22.add (Int.toNat n8 * 1)) = some u) ∧ w16.frozen? (a22.add (Int.toNat n8 * 1)) = false ∧
        Nx (w16.setCell (a22.add (Int.toNat n8 * 1)) (.int .i64 n19)) fun w23 => ∃ a24 : Addr, data.a = some a24 ∧
        (
          (0 : Int) ≤ (IntKind.wrap .i64 (a + n14)) ∧ (IntKind.wrap .i64 (a + n14)) < ((data.len : Nat) : Int))
        ∧ (∃ u : Value, w23.cell? (a24.add (Int.toNat (IntKind.wrap .i64 (a + n14)) * 1)) = some u) ∧
        w23.frozen? (a24.add (Int.toNat (IntKind.wrap .i64 (a + n14)) * 1)) = false ∧
        Nx (w23.setCell (a24.add (Int.toNat (IntKind.wrap .i64 (a + n14)) * 1)) (.int .i64 n21)) fun w25 =>
        I6 (IntKind.wrap .i64 (n8 + 1)) w25 ∧ μ7 (IntKind.wrap .i64 (n8 + 1)) w25 < μ7 n8 w9)
      )
    ∧ (
      (
        decide (
          (n8 : Int) ≤ (
            IntKind.wrap .i64 (
              (
                IntKind.wrap .i64 (a + (IntKind.wrap .i64 ((IntKind.wrap .i64 (Int.tdiv (IntKind.wrap .i64 (b - a)) 4)) * 2))))
              + 1)
            )
          )
        )
      = false → Q (.tuple #[]) w9)
    )
  ∧ ((decide (((IntKind.wrap .i64 (b - a)) : Int) ≥ 8)) = false → Q (.tuple #[]) w)
def A.slices_breakPatternsOrdered_int : AT := (.seq (.reg []) (.seq (.reg []) (.cond (.seq (.reg []) (.seq (.reg []) (.seq (.reg []) (.blk (.loop [(9, (.int .i64))] [0, 1, 6, 7, 8] (.seq (.seq (.reg []) (.cond .leaf .leaf)) (.seq (.blk (.seq (.reg []) (.seq (.jk [(10, (.int .i64))] [0, 1, 6, 7, 8, 9] (.seq (.reg []) (.cond (.reg []) .leaf))) (.drw 18 true ⟨[0, 0, 0, 0, 0, 24, 0, 0, 0, 384, 576, 1024, 0, 0, 12288, 16384, 36803, 102339, 262143, 524287], [0, 0, 0, 0, 0, 24, 0, 0, 0, 384, 576, 1024, 0, 0, 12288, 16384, 3, 67584, 36, 294912]⟩ [140737488355328, 281474976710656, 562949953421312, 1125899906842624, 2251799813685248, 4503599627370496, 9007199254740992, 18014398509481984, 36028797018963968, 72057594037927936, 144115188075855872, 288230376151711744, 576460752303423488, 1152921504606846976, 2305843009213693952, 4611686018427387904, 9223372036854775808, 0, 18446744073709551616, 0] [1, 512, 1, 2, 1024, 3377699720527872, 1, 2, 1024, 54043195528445952, 81064793292668928, 144115188075855872, 1, 512, 1729382256910270464, 2305843009213693952, 422212465065984, 9511602413006487552, 5066549580791808, 23058430092136939520] (.take 0 (.take 1 (.take 2 (.take 3 (.take 4 (.take 5 (.take 6 (.take 7 (.take 8 (.take 9 (.take 10 (.take 11 (.take 12 (.take 13 (.take 14 (.take 15 (.take 16 (.out 17 false (.tail [.run, .run]))))))))))))))))))))))) (.reg [])))))))) .leaf)))
theorem W.slices_breakPatternsOrdered_int_eq (data : Sl) (a : Int) (b : Int) (w : World) (Q : Value → World → Prop) : W.slices_breakPatternsOrdered_int data a b w Q = DF Try.prog tk A.slices_breakPatternsOrdered_int Try.f79 [.slice data.a data.len data.cap, .int .i64 a, .int .i64 b] w Q := by kernel_rfl
theorem W.slices_breakPatternsOrdered_int_ok (data : Sl) (a : Int) (b : Int) (w : World) (Q : Value → World → Prop) (h : W.slices_breakPatternsOrdered_int data a b w Q) : Calls Try.prog F.slices_breakPatternsOrdered_int #[.slice data.a data.len data.cap, .int .i64 a, .int .i64 b] w fun e w1 => ∃ v, e = .returned v ∧ Q v w1 :=
  calls_of_DF hmix Try.func79 (by kernel_rfl) (Eq.mp (W.slices_breakPatternsOrdered_int_eq data a b w Q) h)

/-- slices.choosePivotOrdered[int] -/
def W.slices_choosePivotOrdered_int (data : Sl) (a : Int) (b : Int) (w : World) (Q : Value → World → Prop) : Prop :=
  Nx (w.alloc (.cells #[.int .i64 0] Ty.int)) fun w1 => (4 : Int) ≠ 0 ∧ (4 : Int) ≠ 0 ∧
  (4 : Int) ≠ 0 ∧ Jn (
    fun k2 : Int → World → Prop => (
      (decide (((IntKind.wrap .i64 (b - a)) : Int) ≥ 8)) = true → Jn (
        fun k3 : Int → Int → Int → World → Prop => (
          (decide (((IntKind.wrap .i64 (b - a)) : Int) ≥ 50)) = true → Calls Try.prog F.slices_medianAdjacentOrdered_int #[.slice data.a data.len data.cap, .int .i64 (
            IntKind.wrap .i64 (a + (IntKind.wrap .i64 ((IntKind.wrap .i64 (Int.tdiv (IntKind.wrap .i64 (b - a)) 4)) * 1))))
          , .pointer (some ⟨w.heap.size, 0, none⟩)] w1 fun e5 w4 => ∃ n6 : Int, e5 = .returned (.int .i64 n6) ∧
          Calls Try.prog F.slices_medianAdjacentOrdered_int #[.slice data.a data.len data.cap, .int .i64 (
            IntKind.wrap .i64 (a + (IntKind.wrap .i64 ((IntKind.wrap .i64 (Int.tdiv (IntKind.wrap .i64 (b - a)) 4)) * 2))))
          , .pointer (some ⟨w.heap.size, 0, none⟩)] w4 fun e8 w7 => ∃ n9 : Int, e8 = .returned (.int .i64 n9) ∧
          Calls Try.prog F.slices_medianAdjacentOrdered_int #[.slice data.a data.len data.cap, .int .i64 (
            IntKind.wrap .i64 (a + (IntKind.wrap .i64 ((IntKind.wrap .i64 (Int.tdiv (IntKind.wrap .i64 (b - a)) 4)) * 3))))
          , .pointer (some ⟨w.heap.size, 0, none⟩)] w7 fun e11 w10 => ∃ n12 : Int, e11 = .returned (.int .i64 n12) ∧
          k3 n6 n9 n12 w10)
        ∧ (
          (decide (((IntKind.wrap .i64 (b - a)) : Int) ≥ 50)) = false → k3 (
            IntKind.wrap .i64 (a + (IntKind.wrap .i64 ((IntKind.wrap .i64 (Int.tdiv (IntKind.wrap .i64 (b - a)) 4)) * 1))))
          (
            IntKind.wrap .i64 (a + (IntKind.wrap .i64 ((IntKind.wrap .i64 (Int.tdiv (IntKind.wrap .i64 (b - a)) 4)) * 2))))
          (
            IntKind.wrap .i64 (a + (IntKind.wrap .i64 ((IntKind.wrap .i64 (Int.tdiv (IntKind.wrap .i64 (b - a)) 4)) * 3))))
          w1)
        )
      (
        fun (n13 : Int) (n14 : Int) (n15 : Int) (w16 : World) => Calls Try.prog F.slices_medianOrdered_int #[.slice data.a data.len data.cap, .int .i64 n13, .int .i64 n14, .int .i64 n15, .pointer (some ⟨w.heap.size, 0, none⟩)] w16 fun e18 w17 =>
        ∃ n19 : Int, e18 = .returned (.int .i64 n19) ∧ k2 n19 w17)
      )
    ∧ (
      (decide (((IntKind.wrap .i64 (b - a)) : Int) ≥ 8)) = false → k2 (
        IntKind.wrap .i64 (a + (IntKind.wrap .i64 ((IntKind.wrap .i64 (Int.tdiv (IntKind.wrap .i64 (b - a)) 4)) * 2))))
      w1)
    )
  (
    fun (n20 : Int) (w21 : World) => ∃ n22 : Int, w21.cell? ⟨w.heap.size, 0, none⟩ = some (.int .i64 n22) ∧
    (((n22 : Int) == 0) = true → Q (.tuple #[.int .i64 n20, .int .i64 1]) w21) ∧
    (
      ((n22 : Int) == 0) = false → (((n22 : Int) == 12) = true → Q (.tuple #[.int .i64 n20, .int .i64 2]) w21) ∧
      (((n22 : Int) == 12) = false → Q (.tuple #[.int .i64 n20, .int .i64 0]) w21))
    )
def A.slices_choosePivotOrdered_int : AT := (.seq (.reg []) (.seq (.reg []) (.seq (.reg []) (.seq (.reg []) (.seq (.reg []) (.seq (.reg []) (.seq (.jk [(11, (.int .i64))] [9] (.seq (.reg []) (.cond (.seq (.jk [(10, (.int .i64)), (11, (.int .i64)), (12, (.int .i64))] [0, 9] (.seq (.reg []) (.cond (.seq (.reg []) (.seq (.reg []) (.reg []))) .leaf))) (.reg [])) .leaf))) (.seq (.reg []) (.blk (.seq (.reg []) (.cond (.seq (.reg []) .leaf) (.seq (.reg []) (.cond (.seq (.reg []) .leaf) (.seq (.reg []) .leaf))))))))))))))
theorem W.slices_choosePivotOrdered_int_eq (data : Sl) (a : Int) (b : Int) (w : World) (Q : Value → World → Prop) : W.slices_choosePivotOrdered_int data a b w Q = DF Try.prog tk A.slices_choosePivotOrdered_int Try.f80 [.slice data.a data.len data.cap, .int .i64 a, .int .i64 b] w Q := by kernel_rfl
theorem W.slices_choosePivotOrdered_int_ok (data : Sl) (a : Int) (b : Int) (w : World) (Q : Value → World → Prop) (h : W.slices_choosePivotOrdered_int data a b w Q) : Calls Try.prog F.slices_choosePivotOrdered_int #[.slice data.a data.len data.cap, .int .i64 a, .int .i64 b] w fun e w1 => ∃ v, e = .returned v ∧ Q v w1 :=
  calls_of_DF hmix Try.func80 (by kernel_rfl) (Eq.mp (W.slices_choosePivotOrdered_int_eq data a b w Q) h)

/-- slices.reverseRangeOrdered[int] -/
def W.slices_reverseRangeOrdered_int (data : Sl) (a : Int) (b : Int) (w : World) (Q : Value → World → Prop) : Prop :=
  ∃ (I1 : Int → Int → World → Prop) (μ2 : Int → Int → World → Nat), I1 a (IntKind.wrap .i64 (b - 1)) w ∧
  ∀ (n3 : Int) (n4 : Int) (w5 : World), I1 n3 n4 w5 → (
    (decide ((n3 : Int) < n4)) = true → Nx (w5.drew) fun w6 => ∃ W7 : Nat → Prop, ∃ a8 : Addr, data.a = some a8 ∧
    ((0 : Int) ≤ n4 ∧ n4 < ((data.len : Nat) : Int)) ∧ ¬ W7 (a8.add (Int.toNat n4 * 1)).block ∧
    ∃ n9 : Int, w6.cell? (a8.add (Int.toNat n4 * 1)) = some (.int .i64 n9) ∧ ∃ a10 : Addr, data.a = some a10 ∧
    ((0 : Int) ≤ n3 ∧ n3 < ((data.len : Nat) : Int)) ∧ ¬ W7 (a10.add (Int.toNat n3 * 1)).block ∧
    ∃ n11 : Int, w6.cell? (a10.add (Int.toNat n3 * 1)) = some (.int .i64 n11) ∧
    ∃ a12 : Addr, data.a = some a12 ∧ ((0 : Int) ≤ n3 ∧ n3 < ((data.len : Nat) : Int)) ∧
    (∃ u : Value, w6.cell? (a12.add (Int.toNat n3 * 1)) = some u) ∧ w6.frozen? (a12.add (Int.toNat n3 * 1)) = false ∧
    Nx (w6.setCell (a12.add (Int.toNat n3 * 1)) (.int .i64 n9)) fun w13 => ∃ a14 : Addr, data.a = some a14 ∧
    ((0 : Int) ≤ n4 ∧ n4 < ((data.len : Nat) : Int)) ∧ (∃ u : Value, w13.cell? (a14.add (Int.toNat n4 * 1)) = some u) ∧
    w13.frozen? (a14.add (Int.toNat n4 * 1)) = false ∧ Nx (w13.setCell (a14.add (Int.toNat n4 * 1)) (.int .i64 n11)) fun w15 =>
    I1 (IntKind.wrap .i64 (n3 + 1)) (IntKind.wrap .i64 (n4 - 1)) w15 ∧ μ2 (IntKind.wrap .i64 (n3 + 1)) (IntKind.wrap .i64 (n4 - 1)) w15 < μ2 n3 n4 w5)
  ∧ ((decide ((n3 : Int) < n4)) = false → Q (.tuple #[]) w5)
def A.slices_reverseRangeOrdered_int : AT := (.seq (.reg []) (.seq (.reg []) (.blk (.loop [(6, (.int .i64)), (7, (.int .i64))] [0] (.seq (.seq (.reg []) (.cond .leaf .leaf)) (.blk (.seq (.drw 14 true ⟨[0, 0, 0, 0, 0, 0, 48, 64, 0, 0, 768, 1024, 2291, 6387, 16383, 32767], [0, 0, 0, 0, 0, 0, 48, 64, 0, 0, 768, 1024, 3, 4224, 12, 18432]⟩ [16384, 32768, 65536, 131072, 262144, 524288, 1048576, 2097152, 4194304, 8388608, 16777216, 33554432, 67108864, 0, 134217728, 0] [1, 64, 1, 128, 1, 128, 786432, 1048576, 1, 64, 12582912, 16777216, 49152, 69206016, 196608, 167772160] (.take 0 (.take 1 (.take 2 (.take 3 (.take 4 (.take 5 (.take 6 (.take 7 (.take 8 (.take 9 (.take 10 (.take 11 (.take 12 (.out 13 false (.tail [.run, .run])))))))))))))))) (.seq (.reg []) (.reg [])))))))))
theorem W.slices_reverseRangeOrdered_int_eq (data : Sl) (a : Int) (b : Int) (w : World) (Q : Value → World → Prop) : W.slices_reverseRangeOrdered_int data a b w Q = DF Try.prog tk A.slices_reverseRangeOrdered_int Try.f81 [.slice data.a data.len data.cap, .int .i64 a, .int .i64 b] w Q := by kernel_rfl
theorem W.slices_reverseRangeOrdered_int_ok (data : Sl) (a : Int) (b : Int) (w : World) (Q : Value → World → Prop) (h : W.slices_reverseRangeOrdered_int data a b w Q) : Calls Try.prog F.slices_reverseRangeOrdered_int #[.slice data.a data.len data.cap, .int .i64 a, .int .i64 b] w fun e w1 => ∃ v, e = .returned v ∧ Q v w1 :=
  calls_of_DF hmix Try.func81 (by kernel_rfl) (Eq.mp (W.slices_reverseRangeOrdered_int_eq data a b w Q) h)

/-- slices.partialInsertionSortOrdered[int] -/
def W.slices_partialInsertionSortOrdered_int (data : Sl) (a : Int) (b : Int) (w : World) (Q : Value → World → Prop) : Prop :=
  ∃ (I1 : Int → Int → World → Prop) (μ2 : Int → Int → World → Nat), I1 (IntKind.wrap .i64 (a + 1)) 0 w ∧
  ∀ (n3 : Int) (n4 : Int) (w5 : World), I1 n3 n4 w5 → (
    (decide ((n4 : Int) < 5)) = true → Jn (
      fun k6 : Int → World → Prop => ∃ (I7 : Int → World → Prop) (μ8 : Int → World → Nat), I7 n3 w5 ∧
      ∀ (n9 : Int) (w10 : World), I7 n9 w10 → Nx (w10.drew) fun w11 => (
        (decide ((n9 : Int) < b)) = true → ∃ a12 : Addr, data.a = some a12 ∧ ((0 : Int) ≤ n9 ∧ n9 < ((data.len : Nat) : Int)) ∧
        ¬ False ∧ ∃ n13 : Int, w11.cell? (a12.add (Int.toNat n9 * 1)) = some (.int .i64 n13) ∧
        ∃ a14 : Addr, data.a = some a14 ∧ ((0 : Int) ≤ (IntKind.wrap .i64 (n9 - 1)) ∧ (IntKind.wrap .i64 (n9 - 1)) < ((data.len : Nat) : Int)) ∧
        ¬ False ∧ ∃ n15 : Int, w11.cell? (a14.add (Int.toNat (IntKind.wrap .i64 (n9 - 1)) * 1)) = some (.int .i64 n15) ∧
        Calls Try.prog F.cmp_Less_int #[.int .i64 n13, .int .i64 n15] w11 fun e17 w16 =>
        ∃ b18 : Bool, e17 = .returned (.bool b18) ∧ (
          (!b18) = true → I7 (IntKind.wrap .i64 (n9 + 1)) w16 ∧ μ8 (IntKind.wrap .i64 (n9 + 1)) w16 < μ8 n9 w10)
        ∧ (
          (!b18) = false → (((n9 : Int) == b) = true → Q (.bool true) w16) ∧ (
            ((n9 : Int) == b) = false → ((decide (((IntKind.wrap .i64 (b - a)) : Int) < 50)) = true → Q (.bool false) w16) ∧
            (
              (decide (((IntKind.wrap .i64 (b - a)) : Int) < 50)) = false → Nx (w16.drew) fun w19 =>
              ∃ W20 : Nat → Prop, ∃ a21 : Addr, data.a = some a21 ∧ ((0 : Int) ≤ (IntKind.wrap .i64 (n9 - 1)) ∧ (IntKind.wrap .i64 (n9 - 1)) < ((data.len : Nat) : Int)) ∧
              ¬ W20 (a21.add (Int.toNat (IntKind.wrap .i64 (n9 - 1)) * 1)).block ∧ ∃ n22 : Int, w19.cell? (a21.add (Int.toNat (IntKind.wrap .i64 (n9 - 1)) * 1)) = some (.int .i64 n22) ∧
              ∃ a23 : Addr, data.a = some a23 ∧ ((0 : Int) ≤ n9 ∧ n9 < ((data.len : Nat) : Int)) ∧
              ¬ W20 (a23.add (Int.toNat n9 * 1)).block ∧ ∃ n24 : Int, w19.cell? (a23.add (Int.toNat n9 * 1)) = some (.int .i64 n24) ∧
              ∃ a25 : Addr, data.a = some a25 ∧ ((0 : Int) ≤ n9 ∧ n9 < ((data.len : Nat) : Int)) ∧
              (∃ u : Value, w19.cell? (a25.add (Int.toNat n9 * 1)) = some u) ∧ w19.frozen? (a25.add (Int.toNat n9 * 1)) = false ∧
              Nx (w19.setCell (a25.add (Int.toNat n9 * 1)) (.int .i64 n22)) fun w26 => ∃ a27 : Addr, data.a = some a27 ∧
              ((0 : Int) ≤ (IntKind.wrap .i64 (n9 - 1)) ∧ (IntKind.wrap .i64 (n9 - 1)) < ((data.len : Nat) : Int)) ∧
              (∃ u : Value, w26.cell? (a27.add (Int.toNat (IntKind.wrap .i64 (n9 - 1)) * 1)) = some u) ∧
              w26.frozen? (a27.add (Int.toNat (IntKind.wrap .i64 (n9 - 1)) * 1)) = false ∧
              Nx (w26.setCell (a27.add (Int.toNat (IntKind.wrap .i64 (n9 - 1)) * 1)) (.int .i64 n24)) fun w28 =>
              Jn (
                fun k29 : World → Prop => (
                  (decide (((IntKind.wrap .i64 (n9 - a)) : Int) ≥ 2)) = true → ∃ (I30 : Int → World → Prop) (μ31 : Int → World → Nat), I30 (IntKind.wrap .i64 (n9 - 1)) w28 ∧
                  ∀ (n32 : Int) (w33 : World), I30 n32 w33 → (
                    (decide ((n32 : Int) ≥ 1)) = true → Nx (w33.drew) fun w34 => ∃ a35 : Addr, data.a = some a35 ∧
                    ((0 : Int) ≤ n32 ∧ n32 < ((data.len : Nat) : Int)) ∧ ¬ False ∧ ∃ n36 : Int, w34.cell? (a35.add (Int.toNat n32 * 1)) = some (.int .i64 n36) ∧
                    ∃ a37 : Addr, data.a = some a37 ∧ (
                      (0 : Int) ≤ (IntKind.wrap .i64 (n32 - 1)) ∧ (IntKind.wrap .i64 (n32 - 1)) < ((data.len : Nat) : Int))
                    ∧ ¬ False ∧ ∃ n38 : Int, w34.cell? (a37.add (Int.toNat (IntKind.wrap .i64 (n32 - 1)) * 1)) = some (.int .i64 n38) ∧
                    Calls Try.prog F.cmp_Less_int #[.int .i64 n36, .int .i64 n38] w34 fun e40 w39 =>
                    ∃ b41 : Bool, e40 = .returned (.bool b41) ∧ ((!b41) = true → k29 w39) ∧ (
                      (!b41) = false → Nx (w39.drew) fun w42 => ∃ W43 : Nat → Prop, ∃ a44 : Addr, data.a = some a44 ∧
                      (
                        (0 : Int) ≤ (IntKind.wrap .i64 (n32 - 1)) ∧ (IntKind.wrap .i64 (n32 - 1)) < ((data.len : Nat) : Int))
                      ∧ ¬ W43 (a44.add (Int.toNat (IntKind.wrap .i64 (n32 - 1)) * 1)).block ∧ ∃ n45 : Int, w42.cell? (a44.add (Int.toNat (IntKind.wrap .i64 (n32 - 1)) * 1)) = some (.int .i64 n45) ∧
                      ∃ a46 : Addr, data.a = some a46 ∧ ((0 : Int) ≤ n32 ∧ n32 < ((data.len : Nat) : Int)) ∧
                      ¬ W43 (a46.add (Int.toNat n32 * 1)).block ∧ ∃ n47 : Int, w42.cell? (a46.add (Int.toNat n32 * 1)) = some (.int .i64 n47) ∧
                      ∃ a48 : Addr, data.a = some a48 ∧ ((0 : Int) ≤ n32 ∧ n32 < ((data.len : Nat) : Int)) ∧
                      (∃ u : Value, w42.cell? (a48.add (Int.toNat n32 * 1)) = some u) ∧ w42.frozen? (a48.add (Int.toNat n32 * 1)) = false ∧
                      Nx (w42.setCell (a48.add (Int.toNat n32 * 1)) (.int .i64 n45)) fun w49 => ∃ a50 : Addr, data.a = some a50 ∧
                      (
                        (0 : Int) ≤ (IntKind.wrap .i64 (n32 - 1)) ∧ (IntKind.wrap .i64 (n32 - 1)) < ((data.len : Nat) : Int))
                      ∧ (∃ u : Value, w49.cell? (a50.add (Int.toNat (IntKind.wrap .i64 (n32 - 1)) * 1)) = some u) ∧
                      w49.frozen? (a50.add (Int.toNat (IntKind.wrap .i64 (n32 - 1)) * 1)) = false ∧
                      Nx (w49.setCell (a50.add (Int.toNat (IntKind.wrap .i64 (n32 - 1)) * 1)) (.int .i64 n47)) fun w51 =>
                      I30 (IntKind.wrap .i64 (n32 - 1)) w51 ∧ μ31 (IntKind.wrap .i64 (n32 - 1)) w51 < μ31 n32 w33)
                    )
                  ∧ ((decide ((n32 : Int) ≥ 1)) = false → k29 w33))
                ∧ ((decide (((IntKind.wrap .i64 (n9 - a)) : Int) ≥ 2)) = false → k29 w28))
              (
                fun  (w52 : World) => (
                  (decide (((IntKind.wrap .i64 (b - n9)) : Int) ≥ 2)) = true → ∃ (I53 : Int → World → Prop) (μ54 : Int → World → Nat), I53 (IntKind.wrap .i64 (n9 + 1)) w52 ∧
                  ∀ (n55 : Int) (w56 : World), I53 n55 w56 → (
                    (decide ((n55 : Int) < b)) = true → Nx (w56.drew) fun w57 => ∃ a58 : Addr, data.a = some a58 ∧
                    ((0 : Int) ≤ n55 ∧ n55 < ((data.len : Nat) : Int)) ∧ ¬ False ∧ ∃ n59 : Int, w57.cell? (a58.add (Int.toNat n55 * 1)) = some (.int .i64 n59) ∧
                    ∃ a60 : Addr, data.a = some a60 ∧ (
                      (0 : Int) ≤ (IntKind.wrap .i64 (n55 - 1)) ∧ (IntKind.wrap .i64 (n55 - 1)) < ((data.len : Nat) : Int))
                    ∧ ¬ False ∧ ∃ n61 : Int, w57.cell? (a60.add (Int.toNat (IntKind.wrap .i64 (n55 - 1)) * 1)) = some (.int .i64 n61) ∧
                    Calls Try.prog F.cmp_Less_int #[.int .i64 n59, .int .i64 n61] w57 fun e63 w62 =>
                    ∃ b64 : Bool, e63 = .returned (.bool b64) ∧ ((!b64) = true → k6 n9 w62) ∧
                    (
                      (!b64) = false → Nx (w62.drew) fun w65 => ∃ W66 : Nat → Prop, ∃ a67 : Addr, data.a = some a67 ∧
                      (
                        (0 : Int) ≤ (IntKind.wrap .i64 (n55 - 1)) ∧ (IntKind.wrap .i64 (n55 - 1)) < ((data.len : Nat) : Int))
                      ∧ ¬ W66 (a67.add (Int.toNat (IntKind.wrap .i64 (n55 - 1)) * 1)).block ∧ ∃ n68 : Int, w65.cell? (a67.add (Int.toNat (IntKind.wrap .i64 (n55 - 1)) * 1)) = some (.int .i64 n68) ∧
                      ∃ a69 : Addr, data.a = some a69 ∧ ((0 : Int) ≤ n55 ∧ n55 < ((data.len : Nat) : Int)) ∧
                      ¬ W66 (a69.add (Int.toNat n55 * 1)).block ∧ ∃ n70 : Int, w65.cell? (a69.add (Int.toNat n55 * 1)) = some (.int .i64 n70) ∧
                      ∃ a71 : Addr, data.a = some a71 ∧ ((0 : Int) ≤ n55 ∧ n55 < ((data.len : Nat) : Int)) ∧
                      (∃ u : Value, w65.cell? (a71.add (Int.toNat n55 * 1)) = some u) ∧ w65.frozen? (a71.add (Int.toNat n55 * 1)) = false ∧
                      Nx (w65.setCell (a71.add (Int.toNat n55 * 1)) (.int .i64 n68)) fun w72 => ∃ a73 : Addr, data.a = some a73 ∧
                      (
                        (0 : Int) ≤ (IntKind.wrap .i64 (n55 - 1)) ∧ (IntKind.wrap .i64 (n55 - 1)) < ((data.len : Nat) : Int))
                      ∧ (∃ u : Value, w72.cell? (a73.add (Int.toNat (IntKind.wrap .i64 (n55 - 1)) * 1)) = some u) ∧
                      w72.frozen? (a73.add (Int.toNat (IntKind.wrap .i64 (n55 - 1)) * 1)) = false ∧
                      Nx (w72.setCell (a73.add (Int.toNat (IntKind.wrap .i64 (n55 - 1)) * 1)) (.int .i64 n70)) fun w74 =>
                      I53 (IntKind.wrap .i64 (n55 + 1)) w74 ∧ μ54 (IntKind.wrap .i64 (n55 + 1)) w74 < μ54 n55 w56)
                    )
                  ∧ ((decide ((n55 : Int) < b)) = false → k6 n9 w56))
                ∧ ((decide (((IntKind.wrap .i64 (b - n9)) : Int) ≥ 2)) = false → k6 n9 w52))
              )
            )
          )
        )
      ∧ (
        (decide ((n9 : Int) < b)) = false → (
          false = true → I7 (IntKind.wrap .i64 (n9 + 1)) w11 ∧ μ8 (IntKind.wrap .i64 (n9 + 1)) w11 < μ8 n9 w10)
        ∧ (
          false = false → (((n9 : Int) == b) = true → Q (.bool true) w11) ∧ (
            ((n9 : Int) == b) = false → ((decide (((IntKind.wrap .i64 (b - a)) : Int) < 50)) = true → Q (.bool false) w11) ∧
            (
              (decide (((IntKind.wrap .i64 (b - a)) : Int) < 50)) = false → Nx (w11.drew) fun w75 =>
              ∃ W76 : Nat → Prop, ∃ a77 : Addr, data.a = some a77 ∧ ((0 : Int) ≤ (IntKind.wrap .i64 (n9 - 1)) ∧ (IntKind.wrap .i64 (n9 - 1)) < ((data.len : Nat) : Int)) ∧
              ¬ W76 (a77.add (Int.toNat (IntKind.wrap .i64 (n9 - 1)) * 1)).block ∧ ∃ n78 : Int, w75.cell? (a77.add (Int.toNat (IntKind.wrap .i64 (n9 - 1)) * 1)) = some (.int .i64 n78) ∧
              ∃ a79 : Addr, data.a = some a79 ∧ ((0 : Int) ≤ n9 ∧ n9 < ((data.len : Nat) : Int)) ∧
              ¬ W76 (a79.add (Int.toNat n9 * 1)).block ∧ ∃ n80 : Int, w75.cell? (a79.add (Int.toNat n9 * 1)) = some (.int .i64 n80) ∧
              ∃ a81 : Addr, data.a = some a81 ∧ ((0 : Int) ≤ n9 ∧ n9 < ((data.len : Nat) : Int)) ∧
              (∃ u : Value, w75.cell? (a81.add (Int.toNat n9 * 1)) = some u) ∧ w75.frozen? (a81.add (Int.toNat n9 * 1)) = false ∧
              Nx (w75.setCell (a81.add (Int.toNat n9 * 1)) (.int .i64 n78)) fun w82 => ∃ a83 : Addr, data.a = some a83 ∧
              ((0 : Int) ≤ (IntKind.wrap .i64 (n9 - 1)) ∧ (IntKind.wrap .i64 (n9 - 1)) < ((data.len : Nat) : Int)) ∧
              (∃ u : Value, w82.cell? (a83.add (Int.toNat (IntKind.wrap .i64 (n9 - 1)) * 1)) = some u) ∧
              w82.frozen? (a83.add (Int.toNat (IntKind.wrap .i64 (n9 - 1)) * 1)) = false ∧
              Nx (w82.setCell (a83.add (Int.toNat (IntKind.wrap .i64 (n9 - 1)) * 1)) (.int .i64 n80)) fun w84 =>
              Jn (
                fun k85 : World → Prop => (
                  (decide (((IntKind.wrap .i64 (n9 - a)) : Int) ≥ 2)) = true → ∃ (I86 : Int → World → Prop) (μ87 : Int → World → Nat), I86 (IntKind.wrap .i64 (n9 - 1)) w84 ∧
                  ∀ (n88 : Int) (w89 : World), I86 n88 w89 → (
                    (decide ((n88 : Int) ≥ 1)) = true → Nx (w89.drew) fun w90 => ∃ a91 : Addr, data.a = some a91 ∧
                    ((0 : Int) ≤ n88 ∧ n88 < ((data.len : Nat) : Int)) ∧ ¬ False ∧ ∃ n92 : Int, w90.cell? (a91.add (Int.toNat n88 * 1)) = some (.int .i64 n92) ∧
                    ∃ a93 : Addr, data.a = some a93 ∧ (
                      (0 : Int) ≤ (IntKind.wrap .i64 (n88 - 1)) ∧ (IntKind.wrap .i64 (n88 - 1)) < ((data.len : Nat) : Int))
                    ∧ ¬ False ∧ ∃ n94 : Int, w90.cell? (a93.add (Int.toNat (IntKind.wrap .i64 (n88 - 1)) * 1)) = some (.int .i64 n94) ∧
                    Calls Try.prog F.cmp_Less_int #[.int .i64 n92, .int .i64 n94] w90 fun e96 w95 =>
                    ∃ b97 : Bool, e96 = .returned (.bool b97) ∧ ((!b97) = true → k85 w95) ∧ (
                      (!b97) = false → Nx (w95.drew) fun w98 => ∃ W99 : Nat → Prop, ∃ a100 : Addr, data.a = some a100 ∧
                      (
                        (0 : Int) ≤ (IntKind.wrap .i64 (n88 - 1)) ∧ (IntKind.wrap .i64 (n88 - 1)) < ((data.len : Nat) : Int))
                      ∧ ¬ W99 (a100.add (Int.toNat (IntKind.wrap .i64 (n88 - 1)) * 1)).block ∧
                      ∃ n101 : Int, w98.cell? (a100.add (Int.toNat (IntKind.wrap .i64 (n88 - 1)) * 1)) = some (.int .i64 n101) ∧
                      ∃ a102 : Addr, data.a = some a102 ∧ ((0 : Int) ≤ n88 ∧ n88 < ((data.len : Nat) : Int)) ∧
                      ¬ W99 (a102.add (Int.toNat n88 * 1)).block ∧ ∃ n103 : Int, w98.cell? (a102.add (Int.toNat n88 * 1)) = some (.int .i64 n103) ∧
                      ∃ a104 : Addr, data.a = some a104 ∧ ((0 : Int) ≤ n88 ∧ n88 < ((data.len : Nat) : Int)) ∧
                      (∃ u : Value, w98.cell? (a104.add (Int.toNat n88 * 1)) = some u) ∧ w98.frozen? (a104.add (Int.toNat n88 * 1)) = false ∧
                      Nx (w98.setCell (a104.add (Int.toNat n88 * 1)) (.int .i64 n101)) fun w105 =>
                      ∃ a106 : Addr, data.a = some a106 ∧ (
                        (0 : Int) ≤ (IntKind.wrap .i64 (n88 - 1)) ∧ (IntKind.wrap .i64 (n88 - 1)) < ((data.len : Nat) : Int))
                      ∧ (∃ u : Value, w105.cell? (a106.add (Int.toNat (IntKind.wrap .i64 (n88 - 1)) * 1)) = some u) ∧
                      w105.frozen? (a106.add (Int.toNat (IntKind.wrap .i64 (n88 - 1)) * 1)) = false ∧
                      Nx (w105.setCell (a106.add (Int.toNat (IntKind.wrap .i64 (n88 - 1)) * 1)) (.int .i64 n103)) fun w107 =>
                      I86 (IntKind.wrap .i64 (n88 - 1)) w107 ∧ μ87 (IntKind.wrap .i64 (n88 - 1)) w107 < μ87 n88 w89)
                    )
                  ∧ ((decide ((n88 : Int) ≥ 1)) = false → k85 w89))
                ∧ ((decide (((IntKind.wrap .i64 (n9 - a)) : Int) ≥ 2)) = false → k85 w84))
              (
                fun  (w108 : World) => (
                  (decide (((IntKind.wrap .i64 (b - n9)) : Int) ≥ 2)) = true → ∃ (I109 : Int → World → Prop) (μ110 : Int → World → Nat), I109 (IntKind.wrap .i64 (n9 + 1)) w108 ∧
                  ∀ (n111 : Int) (w112 : World), I109 n111 w112 → (
                    (decide ((n111 : Int) < b)) = true → Nx (w112.drew) fun w113 => ∃ a114 : Addr, data.a = some a114 ∧
                    ((0 : Int) ≤ n111 ∧ n111 < ((data.len : Nat) : Int)) ∧ ¬ False ∧ ∃ n115 : Int, w113.cell? (a114.add (Int.toNat n111 * 1)) = some (.int .i64 n115) ∧
                    ∃ a116 : Addr, data.a = some a116 ∧ (
                      (0 : Int) ≤ (IntKind.wrap .i64 (n111 - 1)) ∧ (IntKind.wrap .i64 (n111 - 1)) < ((data.len : Nat) : Int))
                    ∧ ¬ False ∧ ∃ n117 : Int, w113.cell? (a116.add (Int.toNat (IntKind.wrap .i64 (n111 - 1)) * 1)) = some (.int .i64 n117) ∧
                    Calls Try.prog F.cmp_Less_int #[.int .i64 n115, .int .i64 n117] w113 fun e119 w118 =>
                    ∃ b120 : Bool, e119 = .returned (.bool b120) ∧ ((!b120) = true → k6 n9 w118) ∧
                    (
                      (!b120) = false → Nx (w118.drew) fun w121 => ∃ W122 : Nat → Prop, ∃ a123 : Addr, data.a = some a123 ∧
                      (
                        (0 : Int) ≤ (IntKind.wrap .i64 (n111 - 1)) ∧ (IntKind.wrap .i64 (n111 - 1)) < ((data.len : Nat) : Int))
                      ∧ ¬ W122 (a123.add (Int.toNat (IntKind.wrap .i64 (n111 - 1)) * 1)).block ∧
                      ∃ n124 : Int, w121.cell? (a123.add (Int.toNat (IntKind.wrap .i64 (n111 - 1)) * 1)) = some (.int .i64 n124) ∧
                      ∃ a125 : Addr, data.a = some a125 ∧ ((0 : Int) ≤ n111 ∧ n111 < ((data.len : Nat) : Int)) ∧
                      ¬ W122 (a125.add (Int.toNat n111 * 1)).block ∧ ∃ n126 : Int, w121.cell? (a125.add (Int.toNat n111 * 1)) = some (.int .i64 n126) ∧
                      ∃ a127 : Addr, data.a = some a127 ∧ ((0 : Int) ≤ n111 ∧ n111 < ((data.len : Nat) : Int)) ∧
                      (∃ u : Value, w121.cell? (a127.add (Int.toNat n111 * 1)) = some u) ∧ w121.frozen? (a127.add (Int.toNat n111 * 1)) = false ∧
                      Nx (w121.setCell (a127.add (Int.toNat n111 * 1)) (.int .i64 n124)) fun w128 =>
                      ∃ a129 : Addr, data.a = some a129 ∧ (
                        (0 : Int) ≤ (IntKind.wrap .i64 (n111 - 1)) ∧ (IntKind.wrap .i64 (n111 - 1)) < ((data.len : Nat) : Int))
                      ∧ (∃ u : Value, w128.cell? (a129.add (Int.toNat (IntKind.wrap .i64 (n111 - 1)) * 1)) = some u) ∧
                      w128.frozen? (a129.add (Int.toNat (IntKind.wrap .i64 (n111 - 1)) * 1)) = false ∧
                      Nx (w128.setCell (a129.add (Int.toNat (IntKind.wrap .i64 (n111 - 1)) * 1)) (.int .i64 n126)) fun w130 =>
                      I109 (IntKind.wrap .i64 (n111 + 1)) w130 ∧ μ110 (IntKind.wrap .i64 (n111 + 1)) w130 < μ110 n111 w112)
                    )
                  ∧ ((decide ((n111 : Int) < b)) = false → k6 n9 w112))
                ∧ ((decide (((IntKind.wrap .i64 (b - n9)) : Int) ≥ 2)) = false → k6 n9 w108))
              )
            )
          )
        )
      )
    (
      fun (n131 : Int) (w132 : World) => I1 n131 (IntKind.wrap .i64 (n4 + 1)) w132 ∧
      μ2 n131 (IntKind.wrap .i64 (n4 + 1)) w132 < μ2 n3 n4 w5)
    )
  ∧ ((decide ((n4 : Int) < 5)) = false → Q (.bool false) w5)
def A.slices_partialInsertionSortOrdered_int : AT := (.seq (.reg []) (.seq (.reg []) (.seq (.seq (.reg []) (.blk (.loop [(7, (.int .i64)), (8, (.int .i64))] [0, 1, 2] (.seq (.seq (.reg []) (.cond .leaf .leaf)) (.seq (.jk [(7, (.int .i64))] [0, 1, 2, 8] (.blk (.seq (.blk (.loop [(7, (.int .i64))] [0, 1, 2, 8] (.seq (.seq (.drw 13 false ⟨[0, 0, 3, 4, 8, 8, 56, 72, 8, 8, 520, 1288, 2056, 4232, 8200, 16392], [0, 0, 3, 4, 8, 8, 56, 72, 8, 8, 520, 1288, 2056, 4232, 8200, 16392]⟩ [131072, 262144, 524288, 1048576, 2097152, 4194304, 8388608, 16777216, 33554432, 67108864, 134217728, 268435456, 536870912, 1073741824, 2147483648, 4294967296] [128, 4, 393216, 524288, 1048577, 1048704, 7340032, 9437184, 1048577, 1048704, 68157440, 168820736, 269484032, 554696704, 1074790400, 2148532224] (.take 0 (.take 1 (.take 2 (.take 3 (.sp 20 (.take 4 (.take 5 (.take 6 (.take 7 (.take 8 (.take 9 (.take 10 (.take 11 (.take 12 (.tail [.run, .run, .run])))))))))) (.take 4 (.take 5 (.take 6 (.take 7 (.take 8 (.take 9 (.take 10 (.take 11 (.take 12 (.tail [.run, .run, .run])))))))))))))))) (.cond .leaf .leaf)) (.blk (.reg []))))) (.seq (.seq (.reg []) (.cond (.seq (.reg []) .leaf) .leaf)) (.seq (.seq (.reg []) (.cond (.seq (.reg []) .leaf) .leaf)) (.seq (.drw 16 true ⟨[0, 0, 0, 0, 8, 0, 0, 64, 160, 256, 0, 0, 3072, 4096, 9187, 25571, 65535, 131071], [0, 0, 0, 0, 8, 0, 0, 64, 160, 256, 0, 0, 3072, 4096, 3, 16896, 20, 73728]⟩ [4398046511104, 8796093022208, 17592186044416, 35184372088832, 70368744177664, 140737488355328, 281474976710656, 562949953421312, 1125899906842624, 2251799813685248, 4503599627370496, 9007199254740992, 18014398509481984, 36028797018963968, 72057594037927936, 0, 144115188075855872, 0] [1, 128, 1, 128, 35184372088832, 1, 128, 281474976710656, 703687441776640, 1125899906842624, 1, 128, 13510798882111488, 18014398509481984, 13194139533312, 74309393851613184, 87960930222080, 180143985094819840] (.take 0 (.take 1 (.take 2 (.take 3 (.take 4 (.take 5 (.take 6 (.take 7 (.take 8 (.take 9 (.take 10 (.take 11 (.take 12 (.take 13 (.take 14 (.out 15 false (.tail [.run, .run])))))))))))))))))) (.seq (.jk [] [0, 1, 2, 7, 8] (.seq (.reg []) (.cond (.seq (.reg []) (.blk (.loop [(9, (.int .i64))] [0, 1, 2, 7, 8] (.seq (.seq (.reg []) (.cond .leaf .leaf)) (.seq (.blk (.seq (.seq (.drw 9 false ⟨[0, 0, 3, 4, 0, 0, 32, 80, 128, 264, 512], [0, 0, 3, 4, 0, 0, 32, 80, 128, 264, 512]⟩ [295147905179352825856, 590295810358705651712, 1180591620717411303424, 2361183241434822606848, 4722366482869645213696, 9444732965739290427392, 18889465931478580854784, 37778931862957161709568, 75557863725914323419136, 151115727451828646838272, 302231454903657293676544] [1, 512, 885443715538058477568, 1180591620717411303424, 1, 512, 9444732965739290427392, 23611832414348226068480, 37778931862957161709568, 77919046967349146025984, 151115727451828646838272] (.take 0 (.take 1 (.take 2 (.take 3 (.take 4 (.take 5 (.take 6 (.take 7 (.take 8 (.tail [.run, .run]))))))))))) (.cond .leaf .leaf)) (.drw 16 true ⟨[0, 0, 0, 0, 8, 0, 0, 64, 160, 256, 0, 0, 3072, 4096, 9187, 25571, 65535, 131071], [0, 0, 0, 0, 8, 0, 0, 64, 160, 256, 0, 0, 3072, 4096, 3, 16896, 20, 73728]⟩ [604462909807314587353088, 1208925819614629174706176, 2417851639229258349412352, 4835703278458516698824704, 9671406556917033397649408, 19342813113834066795298816, 38685626227668133590597632, 77371252455336267181195264, 154742504910672534362390528, 309485009821345068724781056, 618970019642690137449562112, 1237940039285380274899124224, 2475880078570760549798248448, 4951760157141521099596496896, 9903520314283042199192993792, 0, 19807040628566084398385987584, 0] [1, 512, 1, 512, 4835703278458516698824704, 1, 512, 38685626227668133590597632, 96714065569170333976494080, 154742504910672534362390528, 1, 512, 1856910058928070412348686336, 2475880078570760549798248448, 1813388729421943762059264, 10213005324104387267917774848, 12089258196146291747061760, 24758800785707605497982484480] (.take 0 (.take 1 (.take 2 (.take 3 (.take 4 (.take 5 (.take 6 (.take 7 (.take 8 (.take 9 (.take 10 (.take 11 (.take 12 (.take 13 (.take 14 (.out 15 false (.tail [.run, .run])))))))))))))))))))) (.reg [])))))) .leaf))) (.seq (.reg []) (.cond (.seq (.reg []) (.blk (.loop [(10, (.int .i64))] [0, 1, 2, 7, 8] (.seq (.seq (.reg []) (.cond .leaf .leaf)) (.seq (.blk (.seq (.seq (.drw 9 false ⟨[0, 0, 3, 4, 0, 0, 32, 80, 128, 264, 512], [0, 0, 3, 4, 0, 0, 32, 80, 128, 264, 512]⟩ [81129638414606681695789005144064, 162259276829213363391578010288128, 324518553658426726783156020576256, 649037107316853453566312041152512, 1298074214633706907132624082305024, 2596148429267413814265248164610048, 5192296858534827628530496329220096, 10384593717069655257060992658440192, 20769187434139310514121985316880384, 41538374868278621028243970633760768, 83076749736557242056487941267521536] [1, 1024, 243388915243820045087367015432192, 324518553658426726783156020576256, 1, 1024, 2596148429267413814265248164610048, 6490371073168534535663120411525120, 10384593717069655257060992658440192, 21418224541456163967688297358032896, 41538374868278621028243970633760768] (.take 0 (.take 1 (.take 2 (.take 3 (.take 4 (.take 5 (.take 6 (.take 7 (.take 8 (.tail [.run, .run]))))))))))) (.cond .leaf .leaf)) (.drw 16 true ⟨[0, 0, 0, 0, 8, 0, 0, 64, 160, 256, 0, 0, 3072, 4096, 9187, 25571, 65535, 131071], [0, 0, 0, 0, 8, 0, 0, 64, 160, 256, 0, 0, 3072, 4096, 3, 16896, 20, 73728]⟩ [166153499473114484112975882535043072, 332306998946228968225951765070086144, 664613997892457936451903530140172288, 1329227995784915872903807060280344576, 2658455991569831745807614120560689152, 5316911983139663491615228241121378304, 10633823966279326983230456482242756608, 21267647932558653966460912964485513216, 42535295865117307932921825928971026432, 85070591730234615865843651857942052864, 170141183460469231731687303715884105728, 340282366920938463463374607431768211456, 680564733841876926926749214863536422912, 1361129467683753853853498429727072845824, 2722258935367507707706996859454145691648, 0, 5444517870735015415413993718908291383296, 0] [1, 1024, 1, 1024, 1329227995784915872903807060280344576, 1, 1024, 10633823966279326983230456482242756608, 26584559915698317458076141205606891520, 42535295865117307932921825928971026432, 1, 1024, 510423550381407695195061911147652317184, 680564733841876926926749214863536422912, 498460498419343452338927647605129216, 2807329527097742323572840511312087744512, 3323069989462289682259517650700861440, 6805647338418769269267492148635364229120] (.take 0 (.take 1 (.take 2 (.take 3 (.take 4 (.take 5 (.take 6 (.take 7 (.take 8 (.take 9 (.take 10 (.take 11 (.take 12 (.take 13 (.take 14 (.out 15 false (.tail [.run, .run])))))))))))))))))))) (.reg [])))))) .leaf))))))))) (.reg [])))))) (.seq (.reg []) .leaf))))
theorem W.slices_partialInsertionSortOrdered_int_eq (data : Sl) (a : Int) (b : Int) (w : World) (Q : Value → World → Prop) : W.slices_partialInsertionSortOrdered_int data a b w Q = DF Try.prog tk A.slices_partialInsertionSortOrdered_int Try.f82 [.slice data.a data.len data.cap, .int .i64 a, .int .i64 b] w Q := by kernel_rfl
theorem W.slices_partialInsertionSortOrdered_int_ok (data : Sl) (a : Int) (b : Int) (w : World) (Q : Value → World → Prop) (h : W.slices_partialInsertionSortOrdered_int data a b w Q) : Calls Try.prog F.slices_partialInsertionSortOrdered_int #[.slice data.a data.len data.cap, .int .i64 a, .int .i64 b] w fun e w1 => ∃ v, e = .returned v ∧ Q v w1 :=
  calls_of_DF hmix Try.func82 (by kernel_rfl) (Eq.mp (W.slices_partialInsertionSortOrdered_int_eq data a b w Q) h)

/-- cmp.Less[int] -/
def W.cmp_Less_int (x : Int) (y : Int) (w : World) (Q : Value → World → Prop) : Prop :=
  Calls Try.prog F.cmp_isNaN_int #[.int .i64 x] w fun e2 w1 => ∃ b3 : Bool, e2 = .returned (.bool b3) ∧
  Jn (
    fun k4 : Bool → World → Prop => (
      b3 = true → Calls Try.prog F.cmp_isNaN_int #[.int .i64 y] w1 fun e6 w5 => ∃ b7 : Bool, e6 = .returned (.bool b7) ∧
      k4 (!b7) w5)
    ∧ (b3 = false → k4 false w1))
  (fun (b8 : Bool) (w9 : World) => Q (.bool (b8 || (decide ((x : Int) < y)))) w9)
def A.cmp_Less_int : AT := (.seq (.reg []) (.seq (.reg [.run, .run, .run, .split 3, .run, .run, .run, .run, .pure 3]) .leaf))
theorem W.cmp_Less_int_eq (x : Int) (y : Int) (w : World) (Q : Value → World → Prop) : W.cmp_Less_int x y w Q = DF Try.prog tk A.cmp_Less_int Try.f83 [.int .i64 x, .int .i64 y] w Q := by kernel_rfl
theorem W.cmp_Less_int_ok (x : Int) (y : Int) (w : World) (Q : Value → World → Prop) (h : W.cmp_Less_int x y w Q) : Calls Try.prog F.cmp_Less_int #[.int .i64 x, .int .i64 y] w fun e w1 => ∃ v, e = .returned v ∧ Q v w1 :=
  calls_of_DF hmix Try.func83 (by kernel_rfl) (Eq.mp (W.cmp_Less_int_eq x y w Q) h)

/-- slices.partitionEqualOrdered[int] -/
def W.slices_partitionEqualOrdered_int (data : Sl) (a : Int) (b : Int) (pivot : Int) (w : World) (Q : Value → World → Prop) : Prop :=
  Nx (w.drew) fun w1 => ∃ W2 : Nat → Prop, ∃ a3 : Addr, data.a = some a3 ∧ ((0 : Int) ≤ pivot ∧ pivot < ((data.len : Nat) : Int)) ∧
  ¬ W2 (a3.add (Int.toNat pivot * 1)).block ∧ ∃ n4 : Int, w1.cell? (a3.add (Int.toNat pivot * 1)) = some (.int .i64 n4) ∧
  ∃ a5 : Addr, data.a = some a5 ∧ ((0 : Int) ≤ a ∧ a < ((data.len : Nat) : Int)) ∧
  ¬ W2 (a5.add (Int.toNat a * 1)).block ∧ ∃ n6 : Int, w1.cell? (a5.add (Int.toNat a * 1)) = some (.int .i64 n6) ∧
  ∃ a7 : Addr, data.a = some a7 ∧ ((0 : Int) ≤ a ∧ a < ((data.len : Nat) : Int)) ∧
  (∃ u : Value, w1.cell? (a7.add (Int.toNat a * 1)) = some u) ∧ w1.frozen? (a7.add (Int.toNat a * 1)) = false ∧
  Nx (w1.setCell (a7.add (Int.toNat a * 1)) (.int .i64 n4)) fun w8 => ∃ a9 : Addr, data.a = some a9 ∧
  ((0 : Int) ≤ pivot ∧ pivot < ((data.len : Nat) : Int)) ∧ (∃ u : Value, w8.cell? (a9.add (Int.toNat pivot * 1)) = some u) ∧
  w8.frozen? (a9.add (Int.toNat pivot * 1)) = false ∧ Nx (w8.setCell (a9.add (Int.toNat pivot * 1)) (.int .i64 n6)) fun w10 =>
  ∃ (I11 : Int → Int → World → Prop) (μ12 : Int → Int → World → Nat), I11 (IntKind.wrap .i64 (a + 1)) (IntKind.wrap .i64 (b - 1)) w10 ∧
  ∀ (n13 : Int) (n14 : Int) (w15 : World), I11 n13 n14 w15 → ∃ (I16 : Int → World → Prop) (μ17 : Int → World → Nat), I16 n13 w15 ∧
  ∀ (n18 : Int) (w19 : World), I16 n18 w19 → Nx (w19.drew) fun w20 => (
    (decide ((n18 : Int) ≤ n14)) = true → ∃ a21 : Addr, data.a = some a21 ∧ ((0 : Int) ≤ a ∧ a < ((data.len : Nat) : Int)) ∧
    ¬ False ∧ ∃ n22 : Int, w20.cell? (a21.add (Int.toNat a * 1)) = some (.int .i64 n22) ∧
    ∃ a23 : Addr, data.a = some a23 ∧ ((0 : Int) ≤ n18 ∧ n18 < ((data.len : Nat) : Int)) ∧
    ¬ False ∧ ∃ n24 : Int, w20.cell? (a23.add (Int.toNat n18 * 1)) = some (.int .i64 n24) ∧
    Calls Try.prog F.cmp_Less_int #[.int .i64 n22, .int .i64 n24] w20 fun e26 w25 =>
    ∃ b27 : Bool, e26 = .returned (.bool b27) ∧ (
      (!b27) = true → I16 (IntKind.wrap .i64 (n18 + 1)) w25 ∧ μ17 (IntKind.wrap .i64 (n18 + 1)) w25 < μ17 n18 w19)
    ∧ (
      (!b27) = false → ∃ (I28 : Int → World → Prop) (μ29 : Int → World → Nat), I28 n14 w25 ∧
      ∀ (n30 : Int) (w31 : World), I28 n30 w31 → Nx (w31.drew) fun w32 => (
        (decide ((n18 : Int) ≤ n30)) = true → ∃ a33 : Addr, data.a = some a33 ∧ ((0 : Int) ≤ a ∧ a < ((data.len : Nat) : Int)) ∧
        ¬ False ∧ ∃ n34 : Int, w32.cell? (a33.add (Int.toNat a * 1)) = some (.int .i64 n34) ∧
        ∃ a35 : Addr, data.a = some a35 ∧ ((0 : Int) ≤ n30 ∧ n30 < ((data.len : Nat) : Int)) ∧
        ¬ False ∧ ∃ n36 : Int, w32.cell? (a35.add (Int.toNat n30 * 1)) = some (.int .i64 n36) ∧
        Calls Try.prog F.cmp_Less_int #[.int .i64 n34, .int .i64 n36] w32 fun e38 w37 =>
        ∃ b39 : Bool, e38 = .returned (.bool b39) ∧ (
          b39 = true → I28 (IntKind.wrap .i64 (n30 - 1)) w37 ∧ μ29 (IntKind.wrap .i64 (n30 - 1)) w37 < μ29 n30 w31)
        ∧ (
          b39 = false → ((decide ((n18 : Int) > n30)) = true → Q (.int .i64 n18) w37) ∧
          (
            (decide ((n18 : Int) > n30)) = false → Nx (w37.drew) fun w40 => ∃ W41 : Nat →
            Prop, ∃ a42 : Addr, data.a = some a42 ∧ ((0 : Int) ≤ n30 ∧ n30 < ((data.len : Nat) : Int)) ∧
            ¬ W41 (a42.add (Int.toNat n30 * 1)).block ∧ ∃ n43 : Int, w40.cell? (a42.add (Int.toNat n30 * 1)) = some (.int .i64 n43) ∧
            ∃ a44 : Addr, data.a = some a44 ∧ ((0 : Int) ≤ n18 ∧ n18 < ((data.len : Nat) : Int)) ∧
            ¬ W41 (a44.add (Int.toNat n18 * 1)).block ∧ ∃ n45 : Int, w40.cell? (a44.add (Int.toNat n18 * 1)) = some (.int .i64 n45) ∧
            ∃ a46 : Addr, data.a = some a46 ∧ ((0 : Int) ≤ n18 ∧ n18 < ((data.len : Nat) : Int)) ∧
            (∃ u : Value, w40.cell? (a46.add (Int.toNat n18 * 1)) = some u) ∧ w40.frozen? (a46.add (Int.toNat n18 * 1)) = false ∧
            Nx (w40.setCell (a46.add (Int.toNat n18 * 1)) (.int .i64 n43)) fun w47 => ∃ a48 : Addr, data.a = some a48 ∧
            ((0 : Int) ≤ n30 ∧ n30 < ((data.len : Nat) : Int)) ∧ (∃ u : Value, w47.cell? (a48.add (Int.toNat n30 * 1)) = some u) ∧
            w47.frozen? (a48.add (Int.toNat n30 * 1)) = false ∧ Nx (w47.setCell (a48.add (Int.toNat n30 * 1)) (.int .i64 n45)) fun w49 =>
            I11 (IntKind.wrap .i64 (n18 + 1)) (IntKind.wrap .i64 (n30 - 1)) w49 ∧ μ12 (IntKind.wrap .i64 (n18 + 1)) (IntKind.wrap .i64 (n30 - 1)) w49 < μ12 n13 n14 w15)
          )
        )
      ∧ (
        (decide ((n18 : Int) ≤ n30)) = false → (
          false = true → I28 (IntKind.wrap .i64 (n30 - 1)) w32 ∧ μ29 (IntKind.wrap .i64 (n30 - 1)) w32 < μ29 n30 w31)
        ∧ (
          false = false → ((decide ((n18 : Int) > n30)) = true → Q (.int .i64 n18) w32) ∧
          (
            (decide ((n18 : Int) > n30)) = false → Nx (w32.drew) fun w50 => ∃ W51 : Nat →
            Prop, ∃ a52 : Addr, data.a = some a52 ∧ ((0 : Int) ≤ n30 ∧ n30 < ((data.len : Nat) : Int)) ∧
            ¬ W51 (a52.add (Int.toNat n30 * 1)).block ∧ ∃ n53 : Int, w50.cell? (a52.add (Int.toNat n30 * 1)) = some (.int .i64 n53) ∧
            ∃ a54 : Addr, data.a = some a54 ∧ ((0 : Int) ≤ n18 ∧ n18 < ((data.len : Nat) : Int)) ∧
            ¬ W51 (a54.add (Int.toNat n18 * 1)).block ∧ ∃ n55 : Int, w50.cell? (a54.add (Int.toNat n18 * 1)) = some (.int .i64 n55) ∧
            ∃ a56 : Addr, data.a = some a56 ∧ ((0 : Int) ≤ n18 ∧ n18 < ((data.len : Nat) : Int)) ∧
            (∃ u : Value, w50.cell? (a56.add (Int.toNat n18 * 1)) = some u) ∧ w50.frozen? (a56.add (Int.toNat n18 * 1)) = false ∧
            Nx (w50.setCell (a56.add (Int.toNat n18 * 1)) (.int .i64 n53)) fun w57 => ∃ a58 : Addr, data.a = some a58 ∧
            ((0 : Int) ≤ n30 ∧ n30 < ((data.len : Nat) : Int)) ∧ (∃ u : Value, w57.cell? (a58.add (Int.toNat n30 * 1)) = some u) ∧
            w57.frozen? (a58.add (Int.toNat n30 * 1)) = false ∧ Nx (w57.setCell (a58.add (Int.toNat n30 * 1)) (.int .i64 n55)) fun w59 =>
            I11 (IntKind.wrap .i64 (n18 + 1)) (IntKind.wrap .i64 (n30 - 1)) w59 ∧ μ12 (IntKind.wrap .i64 (n18 + 1)) (IntKind.wrap .i64 (n30 - 1)) w59 < μ12 n13 n14 w15)
          )
        )
      )
    )
  ∧ (
    (decide ((n18 : Int) ≤ n14)) = false → (
      false = true → I16 (IntKind.wrap .i64 (n18 + 1)) w20 ∧ μ17 (IntKind.wrap .i64 (n18 + 1)) w20 < μ17 n18 w19)
    ∧ (
      false = false → ∃ (I60 : Int → World → Prop) (μ61 : Int → World → Nat), I60 n14 w20 ∧
      ∀ (n62 : Int) (w63 : World), I60 n62 w63 → Nx (w63.drew) fun w64 => (
        (decide ((n18 : Int) ≤ n62)) = true → ∃ a65 : Addr, data.a = some a65 ∧ ((0 : Int) ≤ a ∧ a < ((data.len : Nat) : Int)) ∧
        ¬ False ∧ ∃ n66 : Int, w64.cell? (a65.add (Int.toNat a * 1)) = some (.int .i64 n66) ∧
        ∃ a67 : Addr, data.a = some a67 ∧ ((0 : Int) ≤ n62 ∧ n62 < ((data.len : Nat) : Int)) ∧
        ¬ False ∧ ∃ n68 : Int, w64.cell? (a67.add (Int.toNat n62 * 1)) = some (.int .i64 n68) ∧
        Calls Try.prog F.cmp_Less_int #[.int .i64 n66, .int .i64 n68] w64 fun e70 w69 =>
        ∃ b71 : Bool, e70 = .returned (.bool b71) ∧ (
          b71 = true → I60 (IntKind.wrap .i64 (n62 - 1)) w69 ∧ μ61 (IntKind.wrap .i64 (n62 - 1)) w69 < μ61 n62 w63)
        ∧ (
          b71 = false → ((decide ((n18 : Int) > n62)) = true → Q (.int .i64 n18) w69) ∧
          (
            (decide ((n18 : Int) > n62)) = false → Nx (w69.drew) fun w72 => ∃ W73 : Nat →
            Prop, ∃ a74 : Addr, data.a = some a74 ∧ ((0 : Int) ≤ n62 ∧ n62 < ((data.len : Nat) : Int)) ∧
            ¬ W73 (a74.add (Int.toNat n62 * 1)).block ∧ ∃ n75 : Int, w72.cell? (a74.add (Int.toNat n62 * 1)) = some (.int .i64 n75) ∧
            ∃ a76 : Addr, data.a = some a76 ∧ ((0 : Int) ≤ n18 ∧ n18 < ((data.len : Nat) : Int)) ∧
            ¬ W73 (a76.add (Int.toNat n18 * 1)).block ∧ ∃ n77 : Int, w72.cell? (a76.add (Int.toNat n18 * 1)) = some (.int .i64 n77) ∧
            ∃ a78 : Addr, data.a = some a78 ∧ ((0 : Int) ≤ n18 ∧ n18 < ((data.len : Nat) : Int)) ∧
            (∃ u : Value, w72.cell? (a78.add (Int.toNat n18 * 1)) = some u) ∧ w72.frozen? (a78.add (Int.toNat n18 * 1)) = false ∧
            Nx (w72.setCell (a78.add (Int.toNat n18 * 1)) (.int .i64 n75)) fun w79 => ∃ a80 : Addr, data.a = some a80 ∧
            ((0 : Int) ≤ n62 ∧ n62 < ((data.len : Nat) : Int)) ∧ (∃ u : Value, w79.cell? (a80.add (Int.toNat n62 * 1)) = some u) ∧
            w79.frozen? (a80.add (Int.toNat n62 * 1)) = false ∧ Nx (w79.setCell (a80.add (Int.toNat n62 * 1)) (.int .i64 n77)) fun w81 =>
            I11 (IntKind.wrap .i64 (n18 + 1)) (IntKind.wrap .i64 (n62 - 1)) w81 ∧ μ12 (IntKind.wrap .i64 (n18 + 1)) (IntKind.wrap .i64 (n62 - 1)) w81 < μ12 n13 n14 w15)
          )
        )
      ∧ (
        (decide ((n18 : Int) ≤ n62)) = false → (
          false = true → I60 (IntKind.wrap .i64 (n62 - 1)) w64 ∧ μ61 (IntKind.wrap .i64 (n62 - 1)) w64 < μ61 n62 w63)
        ∧ (
          false = false → ((decide ((n18 : Int) > n62)) = true → Q (.int .i64 n18) w64) ∧
          (
            (decide ((n18 : Int) > n62)) = false → Nx (w64.drew) fun w82 => ∃ W83 : Nat →
            Prop, ∃ a84 : Addr, data.a = some a84 ∧ ((0 : Int) ≤ n62 ∧ n62 < ((data.len : Nat) : Int)) ∧
            ¬ W83 (a84.add (Int.toNat n62 * 1)).block ∧ ∃ n85 : Int, w82.cell? (a84.add (Int.toNat n62 * 1)) = some (.int .i64 n85) ∧
            ∃ a86 : Addr, data.a = some a86 ∧ ((0 : Int) ≤ n18 ∧ n18 < ((data.len : Nat) : Int)) ∧
            ¬ W83 (a86.add (Int.toNat n18 * 1)).block ∧ ∃ n87 : Int, w82.cell? (a86.add (Int.toNat n18 * 1)) = some (.int .i64 n87) ∧
            ∃ a88 : Addr, data.a = some a88 ∧ ((0 : Int) ≤ n18 ∧ n18 < ((data.len : Nat) : Int)) ∧
            (∃ u : Value, w82.cell? (a88.add (Int.toNat n18 * 1)) = some u) ∧ w82.frozen? (a88.add (Int.toNat n18 * 1)) = false ∧
            Nx (w82.setCell (a88.add (Int.toNat n18 * 1)) (.int .i64 n85)) fun w89 => ∃ a90 : Addr, data.a = some a90 ∧
            ((0 : Int) ≤ n62 ∧ n62 < ((data.len : Nat) : Int)) ∧ (∃ u : Value, w89.cell? (a90.add (Int.toNat n62 * 1)) = some u) ∧
            w89.frozen? (a90.add (Int.toNat n62 * 1)) = false ∧ Nx (w89.setCell (a90.add (Int.toNat n62 * 1)) (.int .i64 n87)) fun w91 =>
            I11 (IntKind.wrap .i64 (n18 + 1)) (IntKind.wrap .i64 (n62 - 1)) w91 ∧ μ12 (IntKind.wrap .i64 (n18 + 1)) (IntKind.wrap .i64 (n62 - 1)) w91 < μ12 n13 n14 w15)
          )
        )
      )
    )
def A.slices_partitionEqualOrdered_int : AT := (.seq (.reg []) (.seq (.drw 14 true ⟨[0, 0, 0, 0, 0, 0, 48, 64, 0, 0, 768, 1024, 2291, 6387, 16383, 32767], [0, 0, 0, 0, 0, 0, 48, 64, 0, 0, 768, 1024, 3, 4224, 12, 18432]⟩ [2048, 4096, 8192, 16384, 32768, 65536, 131072, 262144, 524288, 1048576, 2097152, 4194304, 8388608, 0, 16777216, 0] [1, 2, 1, 8, 1, 8, 98304, 131072, 1, 2, 1572864, 2097152, 6144, 8650752, 24576, 20971520] (.take 0 (.take 1 (.take 2 (.take 3 (.take 4 (.take 5 (.take 6 (.take 7 (.take 8 (.take 9 (.take 10 (.take 11 (.take 12 (.out 13 false (.tail [.run, .run])))))))))))))))) (.seq (.reg []) (.seq (.blk (.loop [(9, (.int .i64)), (10, (.int .i64))] [0, 1] (.blk (.seq (.blk (.loop [(9, (.int .i64))] [0, 1, 10] (.seq (.seq (.drw 12 false ⟨[0, 0, 3, 4, 8, 8, 56, 72, 8, 8, 776, 1032, 2184, 4104, 8200], [0, 0, 3, 4, 8, 8, 56, 72, 8, 8, 776, 1032, 2184, 4104, 8200]⟩ [536870912, 1073741824, 2147483648, 4294967296, 8589934592, 17179869184, 34359738368, 68719476736, 137438953472, 274877906944, 549755813888, 1099511627776, 2199023255552, 4398046511104, 8796093022208] [512, 1024, 1610612736, 2147483648, 4294967297, 4294967298, 30064771072, 38654705664, 4294967297, 4294967808, 416611827712, 554050781184, 1172526071808, 2203318222848, 4402341478400] (.take 0 (.take 1 (.take 2 (.take 3 (.sp 32 (.take 4 (.take 5 (.take 6 (.take 7 (.take 8 (.take 9 (.take 10 (.take 11 (.tail [.run, .run, .run]))))))))) (.take 4 (.take 5 (.take 6 (.take 7 (.take 8 (.take 9 (.take 10 (.take 11 (.tail [.run, .run, .run]))))))))))))))) (.cond .leaf .leaf)) (.blk (.reg []))))) (.seq (.blk (.loop [(10, (.int .i64))] [0, 1, 9] (.seq (.seq (.drw 12 false ⟨[0, 0, 3, 4, 8, 8, 56, 72, 8, 8, 776, 1032, 2184, 4104], [0, 0, 3, 4, 8, 8, 56, 72, 8, 8, 776, 1032, 2184, 4104]⟩ [70368744177664, 140737488355328, 281474976710656, 562949953421312, 1125899906842624, 2251799813685248, 4503599627370496, 9007199254740992, 18014398509481984, 36028797018963968, 72057594037927936, 144115188075855872, 288230376151711744, 576460752303423488] [512, 1024, 211106232532992, 281474976710656, 562949953421313, 562949953421314, 3940649673949184, 5066549580791808, 562949953421313, 562949953422336, 54606145481867264, 72620543991349248, 153685337284018176, 288793326105133056] (.take 0 (.take 1 (.take 2 (.take 3 (.sp 49 (.take 4 (.take 5 (.take 6 (.take 7 (.take 8 (.take 9 (.take 10 (.take 11 (.tail [.run, .run]))))))))) (.take 4 (.take 5 (.take 6 (.take 7 (.take 8 (.take 9 (.take 10 (.take 11 (.tail [.run, .run]))))))))))))))) (.cond .leaf .leaf)) (.blk (.reg []))))) (.seq (.seq (.reg []) (.cond .leaf .leaf)) (.seq (.drw 14 true ⟨[0, 0, 0, 0, 0, 0, 48, 64, 0, 0, 768, 1024, 2291, 6387, 16383, 32767], [0, 0, 0, 0, 0, 0, 48, 64, 0, 0, 768, 1024, 3, 4224, 12, 18432]⟩ [36893488147419103232, 73786976294838206464, 147573952589676412928, 295147905179352825856, 590295810358705651712, 1180591620717411303424, 2361183241434822606848, 4722366482869645213696, 9444732965739290427392, 18889465931478580854784, 37778931862957161709568, 75557863725914323419136, 151115727451828646838272, 0, 302231454903657293676544, 0] [1, 512, 1, 1024, 1, 1024, 1770887431076116955136, 2361183241434822606848, 1, 512, 28334198897217871282176, 37778931862957161709568, 110680464442257309696, 155838093934698292051968, 442721857769029238784, 377789318629571617095680] (.take 0 (.take 1 (.take 2 (.take 3 (.take 4 (.take 5 (.take 6 (.take 7 (.take 8 (.take 9 (.take 10 (.take 11 (.take 12 (.out 13 false (.tail [.run, .run])))))))))))))))) (.seq (.reg []) (.reg []))))))))) (.seq (.reg []) .leaf)))))
theorem W.slices_partitionEqualOrdered_int_eq (data : Sl) (a : Int) (b : Int) (pivot : Int) (w : World) (Q : Value → World → Prop) : W.slices_partitionEqualOrdered_int data a b pivot w Q = DF Try.prog tk A.slices_partitionEqualOrdered_int Try.f84 [.slice data.a data.len data.cap, .int .i64 a, .int .i64 b, .int .i64 pivot] w Q := by kernel_rfl
theorem W.slices_partitionEqualOrdered_int_ok (data : Sl) (a : Int) (b : Int) (pivot : Int) (w : World) (Q : Value → World → Prop) (h : W.slices_partitionEqualOrdered_int data a b pivot w Q) : Calls Try.prog F.slices_partitionEqualOrdered_int #[.slice data.a data.len data.cap, .int .i64 a, .int .i64 b, .int .i64 pivot] w fun e w1 => ∃ v, e = .returned v ∧ Q v w1 :=
  calls_of_DF hmix Try.func84 (by kernel_rfl) (Eq.mp (W.slices_partitionEqualOrdered_int_eq data a b pivot w Q) h)

end Go.Proofs.Ytldeegpcldhjaaa
