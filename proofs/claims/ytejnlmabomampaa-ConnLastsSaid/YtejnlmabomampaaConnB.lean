/- Layer 22: the reference, and the statements. -/
import Derived.Test.YtejnlmabomampaaConnA
namespace Go.Proofs.Ytejnlmabomampaa
open Go Gx

theorem bit_all : ∀ n : Nat, n < 256 → (((Int.tmod (n : Int) 2) == 1) = hasB n 1 ∧ ((Int.tmod (IntKind.wrap .u8 (Int.tdiv (n : Int) 2)) 2) == 1) = hasB n 2 ∧
    ((Int.tmod (IntKind.wrap .u8 (Int.tdiv (n : Int) 4)) 2) == 1) = hasB n 4 ∧ ((Int.tmod (IntKind.wrap .u8 (Int.tdiv (n : Int) 16)) 2) == 1) = hasB n 16) ∧
    ((Int.tmod (IntKind.wrap .u8 (Int.tdiv (n : Int) 4)) 2) == 0) = (!(hasB n 4)) ∧ ((Int.tmod (IntKind.wrap .u8 (Int.tdiv (n : Int) 16)) 2) == 0) = (!(hasB n 16)) := by decide +kernel

theorem bits (f : Int) (h0 : 0 ≤ f) (h1 : f ≤ 255) : (((Int.tmod f 2) == 1) = hasB f 1 ∧ ((Int.tmod (IntKind.wrap .u8 (Int.tdiv f 2)) 2) == 1) = hasB f 2 ∧
    ((Int.tmod (IntKind.wrap .u8 (Int.tdiv f 4)) 2) == 1) = hasB f 4 ∧ ((Int.tmod (IntKind.wrap .u8 (Int.tdiv f 16)) 2) == 1) = hasB f 16) ∧
    ((Int.tmod (IntKind.wrap .u8 (Int.tdiv f 4)) 2) == 0) = (!(hasB f 4)) ∧ ((Int.tmod (IntKind.wrap .u8 (Int.tdiv f 16)) 2) == 0) = (!(hasB f 16)) := by
  obtain ⟨n, rfl⟩ := Int.eq_ofNat_of_zero_le h0
  exact bit_all n (by omega)

theorem ref_Next (s f : Int) (c : Bool) (w : World) (h0 : 0 ≤ f) (h1 : f ≤ 255) : Ret Try.prog F.ref22_Next #[.int .i64 s, .int .u8 f, .bool c] w (fun v w' => v = .int .i64 (nextN s f c) ∧ Ext w w') := by
  refine W.ref22_Next_ok s f c w _ ?_
  unfold W.ref22_Next
  obtain ⟨⟨e1, e2, e4, e16⟩, _⟩ := bits f h0 h1
  rw [e1, e2, e4, e16]
  have hx : Ext w w := .refl _ _
  unfold nextN noneN finN beginsB
  generalize hasB f 1 = b1
  generalize hasB f 2 = b2
  generalize hasB f 4 = b4
  generalize hasB f 16 = b16
  have hs : s = 0 ∨ s = 1 ∨ s = 2 ∨ s = 3 ∨ s = 4 ∨ s = 5 ∨ (s < 0 ∨ s > 5) := by omega
  rcases hs with rfl | rfl | rfl | rfl | rfl | rfl | hs
  case inr.inr.inr.inr.inr.inr =>
    have h00 : ¬ s = 0 := by omega
    refine ⟨by decide, by decide, by decide, by decide, by decide, by decide, by decide, fun _ => ⟨by simp [h00, hs], hx⟩, fun h => ?_⟩
    simp at h; omega
  all_goals cases c <;> cases b1 <;> cases b2 <;> cases b4 <;> cases b16 <;> simp [hx]

theorem conn_UDP (x : Int) (w : World) : Ret Try.prog F.conn_UDP #[.int .i64 x] w (fun v w' => v = .int .i64 6 ∧ Ext w w') :=
  W.conn_UDP_ok x w _ ⟨rfl, .refl _ _⟩

def openB (s : Int) : Bool := ((decide (s ≥ 1)) && (decide (s ≤ 6))) && (s != 5)
theorem conn_Open (s : Int) (w : World) : Ret Try.prog F.conn_Open #[.int .i64 s] w (fun v w' => v = .bool (openB s) ∧ Ext w w') :=
  W.conn_Open_ok s w _ ⟨rfl, .refl _ _⟩

def lastsN (s : Int) : Int := if s = 1 then 30 else if s = 2 then 300 else if s = 3 ∨ s = 4 then 60 else if s = 5 then 10 else if s = 6 then 40 else 0

theorem conn_Lasts (s : Int) (w : World) : Ret Try.prog F.conn_Lasts #[.int .i64 s] w (fun v w' => v = .int .u64 (lastsN s) ∧ Ext w w') := by
  refine W.conn_Lasts_ok s w _ ?_
  unfold W.conn_Lasts Jn lastsN
  have hx : Ext w w := .refl _ _
  have hs : s = 1 ∨ s = 2 ∨ s = 3 ∨ s = 4 ∨ s = 5 ∨ s = 6 ∨ (¬ s = 1 ∧ ¬ s = 2 ∧ ¬ s = 3 ∧ ¬ s = 4 ∧ ¬ s = 5 ∧ ¬ s = 6) := by omega
  rcases hs with rfl | rfl | rfl | rfl | rfl | rfl | ⟨h1, h2, h3, h4, h5, h6⟩ <;> simp [*]

theorem ref_Lasts (s : Int) (w : World) : Ret Try.prog F.ref22_Lasts #[.int .i64 s] w (fun v w' => v = .int .u64 (lastsN s) ∧ Ext w w') := by
  refine W.ref22_Lasts_ok s w _ ?_
  unfold W.ref22_Lasts Nx
  refine ⟨fun h => ⟨?_, .refl _ _⟩, fun h => ?_⟩
  · have : s < 0 ∨ s > 6 := by simpa using h
    unfold lastsN
    rw [if_neg (by omega), if_neg (by omega), if_neg (by omega), if_neg (by omega), if_neg (by omega)]
  · have h' : 0 ≤ s ∧ s ≤ 6 := by simp at h; omega
    have hb := Blk.new w #[.int .u64 0, .int .u64 30, .int .u64 300, .int .u64 60, .int .u64 60, .int .u64 10, .int .u64 40] Ty.uint64
    refine ⟨_, rfl, by omega, lastsN s, ?_, rfl, Chg.alloc (.refl _ _) _⟩
    rw [add_mk, hb.cell]
    have hs : s = 0 ∨ s = 1 ∨ s = 2 ∨ s = 3 ∨ s = 4 ∨ s = 5 ∨ s = 6 := by omega
    rcases hs with rfl | rfl | rfl | rfl | rfl | rfl | rfl <;> rfl

theorem lives22 (w : World) : Ret Try.prog F.law22_lives #[] w (fun v w' => v = .bool true ∧ Ext w w') := by
  refine W.law22_lives_ok w _ ?_
  unfold W.law22_lives Jn
  refine (conn_Next 0 2 true w).use ?_
  rintro _ w1 ⟨rfl, hx1⟩
  refine ⟨_, rfl, fun _ => ?_, fun h => absurd h (by decide +kernel)⟩
  refine (conn_UDP 0 w1).use ?_
  rintro _ w2 ⟨rfl, hx2⟩
  refine ⟨_, rfl, fun _ => ?_, fun h => absurd h (by decide)⟩
  refine (conn_Lasts 2 w2).use ?_
  rintro _ w3 ⟨rfl, hx3⟩
  refine ⟨_, rfl, fun _ => ?_, fun h => absurd h (by decide)⟩
  refine (conn_Open 1 w3).use ?_
  rintro _ w4 ⟨rfl, hx4⟩
  exact ⟨_, rfl, rfl, ((hx1.trans hx2).trans hx3).trans hx4⟩

theorem law_ConnNexts (s f : Int) (c : Bool) (w : World) (h0 : 0 ≤ f) (h1 : f ≤ 255) : Ret Try.prog F.law22_ConnNexts #[.int .i64 s, .int .u8 f, .bool c] w (fun v w' => v = .bool true ∧ Ext w w') := by
  refine W.law22_ConnNexts_ok s f c w _ ?_
  unfold W.law22_ConnNexts Jn
  refine (conn_Next s f c w).use ?_
  rintro _ w1 ⟨rfl, hx1⟩
  refine ⟨_, rfl, (ref_Next s f c w1 h0 h1).use ?_⟩
  rintro _ w2 ⟨rfl, hx2⟩
  refine ⟨_, rfl, fun _ => (lives22 w2).use ?_, fun h => by simp at h⟩
  rintro _ w3 ⟨rfl, hx3⟩
  exact ⟨_, rfl, rfl, (hx1.trans hx2).trans hx3⟩

theorem law_ConnLasts (s : Int) (w : World) : Ret Try.prog F.law22_ConnLasts #[.int .i64 s] w (fun v w' => v = .bool true ∧ Ext w w') := by
  refine W.law22_ConnLasts_ok s w _ ?_
  unfold W.law22_ConnLasts Jn
  refine (conn_Lasts s w).use ?_
  rintro _ w1 ⟨rfl, hx1⟩
  refine ⟨_, rfl, (ref_Lasts s w1).use ?_⟩
  rintro _ w2 ⟨rfl, hx2⟩
  refine ⟨_, rfl, fun _ => (conn_Open s w2).use ?_, fun h => by simp at h⟩
  rintro _ w3 ⟨rfl, hx3⟩
  refine ⟨_, rfl, fun _ => (conn_UDP s w3).use ?_, fun h => by simp [openB] at h⟩
  rintro _ w4 ⟨rfl, hx4⟩
  refine ⟨_, rfl, fun _ => (lives22 w4).use ?_, fun h => absurd h (by decide)⟩
  rintro _ w5 ⟨rfl, hx5⟩
  exact ⟨_, rfl, rfl, (((hx1.trans hx2).trans hx3).trans hx4).trans hx5⟩

theorem nextN_range (s f : Int) (c : Bool) : 0 ≤ nextN s f c ∧ nextN s f c ≤ 5 := by
  unfold nextN noneN finN
  repeat' split
  all_goals omega

theorem nextN_closed (f : Int) (c : Bool) (h : ¬ nextN 5 f c = 5) : beginsB f c = true := by
  unfold nextN at h
  by_cases hb : beginsB f c = true
  · exact hb
  · simp [hb] at h

end Go.Proofs.Ytejnlmabomampaa
