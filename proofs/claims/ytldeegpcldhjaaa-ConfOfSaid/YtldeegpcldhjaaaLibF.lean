/- Texts laid: copies, Builder, Join. -/
import Derived.Test.YtldeegpcldhjaaaLibE
import Derived.Lib.UnsafeStr
import Derived.Lib.Builder
import Derived.Lib.MakeNoZero
namespace Go.Proofs.Ytldeegpcldhjaaa
open Go Gx

theorem u8s_plain (l : List UInt8) : ∀ v ∈ u8s l, Plain v := by
  intro v hv
  obtain ⟨n, _, rfl⟩ := List.mem_map.1 hv
  trivial
theorem u8s_append (a b : List UInt8) : u8s (a ++ b) = u8s a ++ u8s b := by simp [u8s]

theorem run_copy_str {dT sT ty : TypeId} {w : World} {b o dl dc : Nat} (l : List UInt8) (hu : Try.prog.underlying dT = some (.slice Ty.uint8)) (hle : l.length ≤ dl) (hst : StoreOk w ⟨b, o, none⟩ (u8s l)) :
    Sem.run Try.prog (Builtin.copy_ #[dT, sT] ty #[.slice (some ⟨b, o, none⟩) dl dc, .string (S l)]) w = .ok (.int .i64 ((l.length : Nat) : Int)) (setCells w ⟨b, o, none⟩ 0 (u8s l)) := by
  have hmin : Nat.min (S l).size dl = l.length := Nat.min_eq_left hle
  have hz := run_sizeOf' (P := Try.prog) (w := w) (t := Ty.uint8) (d := .int .u8) (by kernel_rfl)
  have hc : Try.prog.cellsOf Ty.uint8 = 1 := by kernel_rfl
  rw [hc] at hz
  have hst' := run_storeCells (P := Try.prog) (A := ⟨b, o, none⟩) (u8s l) 0 w (by simpa using hst.1) hst.2
  simp [Builtin.copy_, run_underlying' hu, Builtin.lenOf, Builtin.firstCells, hz, hmin]
  have e2 : List.take l.length (List.map (fun b => Value.int .u8 ((b.toNat : Nat) : Int)) (S l).data.toList) = u8s l := by simp [S, u8s, List.take_of_length_le]
  rw [e2, hst']
  rfl

theorem freeze_ext {w0 w : World} (h : Ext w0 w) {A : Addr} (hA : w0.heap.size ≤ A.block) (n : Nat) : Ext w0 (w.freeze A n) := by
  unfold World.freeze
  split
  · exact h
  · refine Ext.of_new h (W := fun k => k = A.block) ⟨rfl, rfl, rfl, by simp, fun k hk hW => ?_⟩ (fun k hk => by subst hk; exact hA)
    show (w.heap.modify A.block _)[k]? = _
    rw [Array.getElem?_modify, if_neg (fun e => hW e.symm)]

theorem unsafeString_blk {w : World} {b : Nat} {c : Array Value} (l : List UInt8) (h0 : l ≠ []) (hl : l.length ≤ 1000000000000) (hB : Blk w b c Ty.uint8) (hc : c.toList.take l.length = u8s l) :
    Sem.run Try.prog (Builtin.unsafeString_ #[Ty.P_uint8, Ty.int] Ty.string #[.pointer (some ⟨b, 0, none⟩), .int .i64 ((l.length : Nat) : Int)]) w = .ok (.string (S l)) (w.freeze ⟨b, 0, none⟩ l.length) := by
  have hsz : l.length ≤ c.size := by
    have : min l.length c.size = l.length := by simpa [u8s_length] using congrArg List.length hc
    omega
  refine Lib.run_unsafeString_row w Ty.P_uint8 Ty.int Ty.string Ty.uint8 (by kernel_rfl) (by kernel_rfl) b c.size ?_ l h0 hsz (by omega) ?_
  · unfold World.shape?
    have := hB
    unfold Blk at this
    rw [this]
  · intro j x hx
    have hj : j < l.length := (List.getElem?_eq_some_iff.1 hx).1
    rw [add_mk, Nat.zero_add, hB.cell]
    have h1 : (u8s l)[j]? = some (.int .u8 ((x.toNat : Nat) : Int)) := by rw [u8s, List.getElem?_map, hx]; rfl
    rw [← hc, List.getElem?_take_of_lt hj] at h1
    simpa using h1

/-! ### The Builder -/
theorem append_str_fit {oT : TypeId} {w : World} {s : Sl} (l : List UInt8) (hfit : s.len + l.length ≤ s.cap) (hst : ∀ a, s.a = some a → StoreOk w (a.add s.len) (u8s l)) :
    Sem.run Try.prog (Builtin.append_ #[Ty.Sl_uint8, Ty.string] oT #[.slice s.a s.len s.cap, .string (S l)]) w =
      .ok (.slice s.a (s.len + l.length) s.cap) (match s.a with | some a => setCells w (a.add s.len) 0 (u8s l) | none => w) := by
  have hu : Try.prog.underlying Ty.Sl_uint8 = some (.slice Ty.uint8) := by kernel_rfl
  have hs : Try.prog.underlying Ty.string = some .string := by kernel_rfl
  have hz := run_sizeOf' (P := Try.prog) (w := w) (t := Ty.uint8) (d := .int .u8) (by kernel_rfl)
  have hc : Try.prog.cellsOf Ty.uint8 = 1 := by kernel_rfl
  rw [hc] at hz
  have hsz : (S l).size = l.length := rfl
  have e2 : List.take l.length (List.map (fun b => Value.int .u8 ((b.toNat : Nat) : Int)) (S l).data.toList) = u8s l := by simp [S, u8s, List.take_of_length_le]
  cases ha : s.a with
  | none => simp [Builtin.append_, run_underlying' hu, run_underlying' hs, Builtin.lenOf, Builtin.firstCells, hz, hsz, hfit]
  | some a =>
    have hst' := hst a ha
    have := run_storeCells (P := Try.prog) (A := a.add s.len) (u8s l) 0 w (by simpa using hst'.1) hst'.2
    simp [Builtin.append_, run_underlying' hu, run_underlying' hs, Builtin.lenOf, Builtin.firstCells, hz, hsz, hfit, e2, this]

/-! ### Join -/
/-- Texts with a byte between. -/
def joinB (c : UInt8) : List (List UInt8) → List UInt8
  | [] => []
  | [l] => l
  | l :: m :: ls => l ++ c :: joinB c (m :: ls)

def tailB (c : UInt8) : List (List UInt8) → List UInt8
  | [] => []
  | l :: ls => c :: l ++ tailB c ls
theorem joinB_cons (c : UInt8) (l : List UInt8) : ∀ ls, joinB c (l :: ls) = l ++ tailB c ls
  | [] => by simp [joinB, tailB]
  | m :: ls => by simp [joinB, tailB, joinB_cons c m ls]
theorem tailB_append (c : UInt8) : ∀ (a b : List (List UInt8)), tailB c (a ++ b) = tailB c a ++ tailB c b
  | [], _ => rfl
  | l :: ls, b => by simp [tailB, tailB_append c ls b]

def sumLen : List (List UInt8) → Nat
  | [] => 0
  | l :: ls => l.length + sumLen ls
theorem sumLen_append : ∀ (a b : List (List UInt8)), sumLen (a ++ b) = sumLen a + sumLen b
  | [], _ => by simp [sumLen]
  | l :: ls, b => by simp [sumLen, sumLen_append ls b, Nat.add_assoc]
theorem tailB_length (c : UInt8) : ∀ ls, (tailB c ls).length = ls.length + sumLen ls
  | [] => rfl
  | l :: ls => by simp [tailB, sumLen, tailB_length c ls]; omega
theorem take_succ {α : Type} (ls : List α) {i : Nat} (h : i < ls.length) : ls.take (i + 1) = ls.take i ++ [ls[i]] := by
  rw [List.take_succ_eq_append_getElem h]

end Go.Proofs.Ytldeegpcldhjaaa
