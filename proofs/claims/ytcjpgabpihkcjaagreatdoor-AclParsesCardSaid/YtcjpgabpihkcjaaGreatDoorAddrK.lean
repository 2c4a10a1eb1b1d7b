/- The reference's Parse, walked. -/
import Derived.Test.YtcjpgabpihkcjaaGreatDoorAddrJ
namespace Go.Proofs.YtcjpgabpihkcjaaGreatDoor
open Go Gx

/-- One byte of an address, set. -/
theorem Var.setB {w : World} {b : Nat} {six : Bool} {B : List UInt8} {hB : B.length = 16} (h : Var w b (Ad.mk six B hB).c Ty.api_Addr) {i : Nat} {A : Addr} (hA : A = ⟨b, 1 + i, none⟩) {v : Value} {x : UInt8} (hv : v = .int .u8 ((x.toNat : Nat) : Int)) :
    Var (w.setCell A v) b (Ad.mk six (B.set i x) (by simp [hB])).c Ty.api_Addr := by
  subst hA hv
  have := h.setC (1 + i) (.int .u8 ((x.toNat : Nat) : Int))
  rw [Ad.c, Nat.add_comm 1, List.set_cons_succ, u8s_set] at this
  rw [Nat.add_comm 1]
  exact this
theorem nat_u8 {n : Nat} (h : n < 256) : ((n : Nat) : Int) = (((UInt8.ofNat n).toNat : Nat) : Int) := by
  simp; omega
theorem c_some {six : Bool} {B : List UInt8} {hB : B.length = 16} {i : Nat} (h : i < 16) : ∃ u, (Ad.mk six B hB).c[1 + i]? = some u := ⟨_, Ad.cB _ h⟩

end Go.Proofs.YtcjpgabpihkcjaaGreatDoor
