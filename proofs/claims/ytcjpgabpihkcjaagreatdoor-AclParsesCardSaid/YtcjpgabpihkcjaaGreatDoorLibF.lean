/- Texts laid: copies, Builder, Join. -/
import Derived.Test.YtcjpgabpihkcjaaGreatDoorLibE
import Derived.Lib.UnsafeStr
import Derived.Lib.Builder
import Derived.Lib.MakeNoZero
namespace Go.Proofs.YtcjpgabpihkcjaaGreatDoor
open Go Gx

theorem u8s_plain (l : List UInt8) : ∀ v ∈ u8s l, Plain v := by
  intro v hv
  obtain ⟨n, _, rfl⟩ := List.mem_map.1 hv
  trivial
theorem u8s_append (a b : List UInt8) : u8s (a ++ b) = u8s a ++ u8s b := by simp [u8s]

theorem run_copy_str {dT sT ty : TypeId} {w : World} {b o dl dc : Nat} (l : List UInt8) (hu : Tryz.prog.underlying dT = some (.slice Ty.uint8)) (hle : l.length ≤ dl) (hst : StoreOk w ⟨b, o, none⟩ (u8s l)) :
    Sem.run Tryz.prog (Builtin.copy_ #[dT, sT] ty #[.slice (some ⟨b, o, none⟩) dl dc, .string (S l)]) w = .ok (.int .i64 ((l.length : Nat) : Int)) (setCells w ⟨b, o, none⟩ 0 (u8s l)) := by
  have hmin : Nat.min (S l).size dl = l.length := Nat.min_eq_left hle
  have hz := run_sizeOf' (P := Tryz.prog) (w := w) (t := Ty.uint8) (d := .int .u8) (by kernel_rfl)
  have hc : Tryz.prog.cellsOf Ty.uint8 = 1 := by kernel_rfl
  rw [hc] at hz
  have hst' := run_storeCells (P := Tryz.prog) (A := ⟨b, o, none⟩) (u8s l) 0 w (by simpa using hst.1) hst.2
  simp [Builtin.copy_, run_underlying' hu, Builtin.lenOf, Builtin.firstCells, hz, hmin]
  have e2 : List.take l.length (List.map (fun b => Value.int .u8 ((b.toNat : Nat) : Int)) (S l).data.toList) = u8s l := by simp [S, u8s, List.take_of_length_le]
  rw [e2, hst']
  rfl

theorem freeze_ext {w0 w : World} (h : Ext w0 w) {A : Addr} (hA : w0.heap.size ≤ A.block) (n : Nat) : Ext w0 (w.freeze A n) := by
  unfold World.freeze
  split
  · exact h
  · refine Ext.of_new h (W := fun k => k = A.block) ⟨rfl, rfl, rfl, by simp, fun k hk hW => ?_⟩ (fun k hk => by subst hk; exact hA)
    show (w.heap.modify A.block _)[k]? = _
    rw [Array.getElem?_modify, if_neg (fun e => hW e.symm)]

theorem unsafeString_blk {w : World} {b : Nat} {c : Array Value} (l : List UInt8) (h0 : l ≠ []) (hl : l.length ≤ 1000000000000) (hB : Blk w b c Ty.uint8) (hc : c.toList.take l.length = u8s l) :
    Sem.run Tryz.prog (Builtin.unsafeString_ #[Ty.P_uint8, Ty.int] Ty.string #[.pointer (some ⟨b, 0, none⟩), .int .i64 ((l.length : Nat) : Int)]) w = .ok (.string (S l)) (w.freeze ⟨b, 0, none⟩ l.length) := by
  have hsz : l.length ≤ c.size := by
    have : min l.length c.size = l.length := by simpa [u8s_length] using congrArg List.length hc
    omega
  refine Lib.run_unsafeString_row w Ty.P_uint8 Ty.int Ty.string Ty.uint8 (by kernel_rfl) (by kernel_rfl) b c.size ?_ l h0 hsz (by omega) ?_
  · unfold World.shape?
    have := hB
    unfold Blk at this
    rw [this]
  · intro j x hx
    have hj : j < l.length := (List.getElem?_eq_some_iff.1 hx).1
    rw [add_mk, Nat.zero_add, hB.cell]
    have h1 : (u8s l)[j]? = some (.int .u8 ((x.toNat : Nat) : Int)) := by rw [u8s, List.getElem?_map, hx]; rfl
    rw [← hc, List.getElem?_take_of_lt hj] at h1
    simpa using h1

theorem Clone_str (l : List UInt8) (hl : l.length ≤ 1000000000000) (w : World) : Ret Tryz.prog F.internal_stringslite_Clone #[.string (S l)] w (fun v w' => v = .string (S l) ∧ Ext w w') := by
  refine W.internal_stringslite_Clone_ok (S l) w _ ?_
  unfold W.internal_stringslite_Clone Nx
  rw [S_size]
  refine ⟨fun h => ?_, fun h => ?_⟩
  · have h := eq_of_beq h
    have : l = [] := List.length_eq_zero_iff.1 (by omega)
    subst this
    exact ⟨rfl, .refl _ _⟩
  · have h0 : l ≠ [] := by rintro rfl; simp at h
    have hpos : 0 < l.length := List.length_pos_iff.2 h0
    have hz : zrow Tryz.prog Ty.uint8 l.length = (List.replicate l.length (.int .u8 0)).toArray := zrow_of (by kernel_rfl) (by kernel_rfl) _
    rw [show Int.toNat (l.length : Int) = l.length from rfl, hz]
    have hx1 : Ext w (w.alloc (.cells (List.replicate l.length (.int .u8 0)).toArray Ty.uint8)) := Chg.alloc (.refl _ _) _
    have hB1 := Blk.new w (List.replicate l.length (.int .u8 0)).toArray Ty.uint8
    have hrun := run_copy_str (dT := Ty.Sl_uint8) (sT := Ty.string) (ty := Ty.int) (dl := l.length) (dc := l.length) l (by kernel_rfl) (Nat.le_refl _) (hB1.storeOk 0 (u8s l) (by simp [u8s_length]) (u8s_plain l))
    have hB2 := hB1.sets (u8s l) 0 0
    simp only [Nat.add_zero] at hB2
    have hx2 : Ext w (setCells (w.alloc (.cells (List.replicate l.length (.int .u8 0)).toArray Ty.uint8)) ⟨w.heap.size, 0, none⟩ 0 (u8s l)) :=
      Ext.of_new hx1 (W := fun k => k = w.heap.size) (Chg.setsB (.refl _ _) (u8s l) 0) (fun k hk => by subst hk; exact Nat.le_refl _)
    have hcont : (spl (List.replicate l.length (.int .u8 0)).toArray 0 (u8s l)).toList.take l.length = u8s l := by
      have := take_spl (u8s l) (List.replicate l.length (.int .u8 0)).toArray 0 (by simp [u8s_length])
      simpa [u8s_length] using this
    refine ⟨⟨by omega, by omega, by omega, by omega⟩, _, _, hrun, _, rfl, ⟨by decide, by omega⟩, ?_⟩
    rw [show Int.toNat 0 * 1 = 0 from rfl, add_zero']
    exact ⟨_, _, unsafeString_blk l h0 hl hB2 hcont, rfl, freeze_ext hx2 (Nat.le_refl _) _⟩

/-! ### The Builder -/
theorem append_str_fit {oT : TypeId} {w : World} {s : Sl} (l : List UInt8) (hfit : s.len + l.length ≤ s.cap) (hst : ∀ a, s.a = some a → StoreOk w (a.add s.len) (u8s l)) :
    Sem.run Tryz.prog (Builtin.append_ #[Ty.Sl_uint8, Ty.string] oT #[.slice s.a s.len s.cap, .string (S l)]) w =
      .ok (.slice s.a (s.len + l.length) s.cap) (match s.a with | some a => setCells w (a.add s.len) 0 (u8s l) | none => w) := by
  have hu : Tryz.prog.underlying Ty.Sl_uint8 = some (.slice Ty.uint8) := by kernel_rfl
  have hs : Tryz.prog.underlying Ty.string = some .string := by kernel_rfl
  have hz := run_sizeOf' (P := Tryz.prog) (w := w) (t := Ty.uint8) (d := .int .u8) (by kernel_rfl)
  have hc : Tryz.prog.cellsOf Ty.uint8 = 1 := by kernel_rfl
  rw [hc] at hz
  have hsz : (S l).size = l.length := rfl
  have e2 : List.take l.length (List.map (fun b => Value.int .u8 ((b.toNat : Nat) : Int)) (S l).data.toList) = u8s l := by simp [S, u8s, List.take_of_length_le]
  cases ha : s.a with
  | none => simp [Builtin.append_, run_underlying' hu, run_underlying' hs, Builtin.lenOf, Builtin.firstCells, hz, hsz, hfit]
  | some a =>
    have hst' := hst a ha
    have := run_storeCells (P := Tryz.prog) (A := a.add s.len) (u8s l) 0 w (by simpa using hst'.1) hst'.2
    simp [Builtin.append_, run_underlying' hu, run_underlying' hs, Builtin.lenOf, Builtin.firstCells, hz, hsz, hfit, e2, this]

theorem eqPtr {xo yo : Operand} {A : Addr} : OpqEq Tryz.prog .neq Ty.P_strings_Builder xo yo (.pointer (some A)) (.pointer (some A)) false := by
  intro w
  have hu : Tryz.prog.underlying Ty.P_strings_Builder = some (.pointer Ty.strings_Builder) := by kernel_rfl
  have hz := fun w => run_sizeOf' (P := Tryz.prog) (w := w) (t := Ty.strings_Builder) (d := (Tryz.prog.underlying Ty.strings_Builder).get (by kernel_rfl)) (by simp)
  have hc : Tryz.prog.cellsOf Ty.strings_Builder = 2 := by kernel_rfl
  have e1 : ∀ (d : Nat) (w : World), (Op.equalIn (d + 1) Ty.P_strings_Builder (.pointer (some A)) (.pointer (some A))).run Tryz.prog w = .ok true w := by
    intro d w
    simp [Op.equalIn, run_underlying' hu, hz, hc, sameAddr]
  have := e1 9999 w
  rw [← equal_succ] at this
  simp [eqGuard, binOp, this]

set_option maxRecDepth 100000 in
theorem copyCheck0 {w : World} {B : Nat} {p : Option Addr} {v2 : Value} (hp : p = none ∨ p = some ⟨B, 0, none⟩) (hB : Blk w B #[.pointer p, v2] Ty.strings_Builder) :
    Ret Tryz.prog F.strings_Builder_copyCheck #[.pointer (some ⟨B, 0, none⟩)] w (fun v w' => v = .tuple #[] ∧ Blk w' B #[.pointer (some ⟨B, 0, none⟩), v2] Ty.strings_Builder ∧ Chg (fun q => q = B) w w') := by
  refine W.strings_Builder_copyCheck_ok _ w _ ?_
  unfold W.strings_Builder_copyCheck Nx
  refine ⟨_, rfl, p, by rw [hB.cell]; rfl, fun h => ?_, fun h => ?_⟩
  · have hup : Tryz.prog.underlying Ty.P_strings_Builder = some (.pointer Ty.strings_Builder) := by kernel_rfl
    have huu : Tryz.prog.underlying Ty.unsafe_Pointer = some .unsafePointer := by kernel_rfl
    have hi : Tryz.prog.info? Ty.strings_Builder = some ((Tryz.prog.info? Ty.strings_Builder).get (by kernel_rfl)) := (Option.some_get _).symm
    refine ⟨some ⟨B, 0, none⟩, w, ?_, some ⟨B, 0, none⟩, w, ?_, some ⟨B, 0, none⟩, w, ?_, _, rfl, ⟨_, by rw [hB.cell]; rfl⟩, hB.frozen _ rfl, rfl, ?_⟩
    · exact Lib.run_to_unsafe w _ hup huu hi (by decide +kernel) hB.shape (by show 0 < 2; decide)
    · rw [run_callFunc_extern Tryz.func85 rfl rfl rfl rfl]; rfl
    · exact Lib.run_from_unsafe w _ huu hup hi hB.shape (by kernel_rfl)
    · exact ⟨hB.set 0 (.pointer (some ⟨B, 0, none⟩)), Chg.cellB (.refl _ _) _⟩
  · rcases hp with rfl | rfl
    · simp at h
    · exact ⟨_, rfl, some ⟨B, 0, none⟩, by rw [hB.cell]; rfl, false, eqPtr, (fun h => by cases h), fun _ => ⟨rfl, hB, .refl _ _⟩⟩

theorem MakeNoZero (n : Nat) (hn : n ≤ 1000000000000) (w : World) :
    ∃ cs : Array Value, Sem.run Tryz.prog (callFunc F.internal_bytealg_MakeNoZero #[.int .i64 (n : Int)]) w = .ok (.value (.slice (some ⟨w.heap.size, 0, none⟩) n cs.size)) (w.drew.drew.alloc (.cells cs Ty.uint8)) ∧ n ≤ cs.size ∧ cs.size ≤ maxLen := by
  obtain ⟨cs, h1, h2, h3⟩ := Lib.run_makeNoZero (P := Tryz.prog) w #[Ty.int] Ty.Sl_uint8 Ty.uint8 (by kernel_rfl) n (by omega)
  refine ⟨cs, ?_, h2, h3 (by show n ≤ 2 ^ 63 - 1; omega)⟩
  refine (run_callFunc_extern (e := Extern.BytealgMakeNoZero.makeNoZero #[Ty.int] #[Ty.Sl_uint8]) Tryz.func86 rfl rfl rfl (by kernel_rfl) _ _).trans ?_
  rw [h1]
  rfl

/-- A Builder in block B that was used: what it holds, and its room. -/
structure Bld (w0 w : World) (B : Nat) (l : List UInt8) (cap : Nat) : Prop where
  ext : Ext w0 w
  new : w0.heap.size ≤ B
  st : ∃ s : Sl, Blk w B #[.pointer (some ⟨B, 0, none⟩), .slice s.a s.len s.cap] Ty.strings_Builder ∧ OwnS 1 Ty.uint8 w s (u8s l) ∧ cap ≤ s.cap ∧ ∀ k, ownB s k → w0.heap.size ≤ k ∧ k ≠ B

theorem Grow0 {w0 w : World} {B : Nat} (n : Nat) (hn : n ≤ 1000000000000) (hx : Ext w0 w) (hnew : w0.heap.size ≤ B) (hB : Blk w B #[.pointer none, .slice none 0 0] Ty.strings_Builder) :
    Ret Tryz.prog F.strings_Builder_Grow #[.pointer (some ⟨B, 0, none⟩), .int .i64 n] w (fun v w' => v = .tuple #[] ∧ Bld w0 w' B [] n) := by
  refine W.strings_Builder_Grow_ok _ n w _ ?_
  unfold W.strings_Builder_Grow Nx
  refine (copyCheck0 (.inl rfl) hB).use ?_
  rintro _ w1 ⟨rfl, hB1, hc1⟩
  have hx1 : Ext w0 w1 := Ext.of_new hx hc1 (fun k hk => by subst hk; exact hnew)
  refine ⟨rfl, Jn0 (fun w2 => w1 = w2) (fun q hq => ⟨fun h => by have := of_decide_eq_true h; omega, fun _ => hq _ rfl⟩) ?_⟩
  rintro _ rfl
  have hB2 := hB1.drew
  have hx2 : Ext w0 w1.drew := Chg.drew hx1
  have hcell : w1.drew.cell? ((Addr.mk B 0 none).add 1) = some (.slice none 0 0) := by rw [add_mk, hB2.cell]; rfl
  refine ⟨_, rfl, id, ⟨none, 0, 0⟩, hcell, _, rfl, id, ⟨none, 0, 0⟩, hcell, fun h => ?_, fun h => ?_⟩
  · refine Calls.mono (W.strings_Builder_grow_ok _ n _ (fun v w' => v = .tuple #[] ∧ Bld w0 w' B [] n) ?_) ?_
    · unfold W.strings_Builder_grow Nx
      have hB3 := hB2.drew
      have hcell3 : w1.drew.drew.cell? ((Addr.mk B 0 none).add 1) = some (.slice none 0 0) := by rw [add_mk, hB3.cell]; rfl
      obtain ⟨cs, hrun, hcs1, hcs2⟩ := MakeNoZero n hn w1.drew.drew
      have hlt := hB3.lt
      have e1 : IntKind.wrap .i64 ((IntKind.wrap .i64 (2 * (((0 : Nat)) : Int))) + (n : Int)) = (n : Int) := by
        rw [show IntKind.wrap .i64 (2 * (((0 : Nat)) : Int)) = 0 from rfl, Int.zero_add, wrapi (by omega) (by omega)]
      have hB4 := ((hB3.drew).drew).alloc (.cells cs Ty.uint8)
      have hxa : Ext w1.drew.drew (w1.drew.drew.drew.drew.alloc (.cells cs Ty.uint8)) := Chg.alloc (Chg.drew (Chg.drew (.refl _ _))) _
      have hcut : cutA (some (Addr.mk w1.drew.drew.heap.size 0 none)) 1 0 cs.size = some ⟨w1.drew.drew.heap.size, 0, none⟩ := by
        unfold cutA; split
        · rfl
        · simp [add_mk]
      refine ⟨fun _ => False, _, rfl, id, ⟨none, 0, 0⟩, hcell3, _, rfl, id, ⟨none, 0, 0⟩, hcell3, ⟨some ⟨w1.drew.drew.heap.size, 0, none⟩, n, cs.size⟩, _, by rw [e1]; exact hrun, hxa, ⟨Int.le_refl 0, by show ((0 : Nat) : Int) ≤ ((cs.size : Nat) : Int); omega⟩, _, rfl, ⟨none, 0, 0⟩, by rw [add_mk, hB4.cell]; rfl, 0, _, ?_, _, rfl, ⟨_, by rw [add_mk, hB4.cell]; rfl⟩, hB4.frozen _ rfl, rfl, ?_⟩
      · rw [hcut]
        have hu : Tryz.prog.underlying Ty.Sl_uint8 = some (.slice Ty.uint8) := by kernel_rfl
        have hz := fun w => run_sizeOf' (P := Tryz.prog) (w := w) (t := Ty.uint8) (d := .int .u8) (by kernel_rfl)
        simp [Builtin.copy_, run_underlying' hu, Builtin.lenOf, Builtin.firstCells, hz, storeCells]
        rfl
      · rw [hcut, add_mk]
        have hx5 : Ext w0 (w1.drew.drew.drew.drew.alloc (.cells cs Ty.uint8)) := Ext.trans (Chg.drew hx2) hxa
        refine ⟨hx5.set hnew _, hnew, ⟨some ⟨w1.drew.drew.heap.size, 0, none⟩, 0, cs.size⟩, hB4.set 1 _, ?_, hcs1, ?_⟩
        · refine ⟨rfl, Nat.zero_le _, hcs2, .inr ⟨_, cs, rfl, (Blk.new w1.drew.drew.drew.drew cs Ty.uint8).set_ne (by show B ≠ w1.drew.drew.heap.size; omega) _, by simp, by simp [u8s]⟩⟩
        · rintro k ⟨A, hA, hk⟩
          cases hA
          subst hk
          exact ⟨(Chg.drew hx2).size, by show w1.drew.drew.heap.size ≠ B; omega⟩
    · rintro _ w2 ⟨_, rfl, rfl, hb⟩
      exact ⟨rfl, rfl, hb⟩
  · have h := of_decide_eq_false h
    have h0 : n = 0 := by
      rw [show IntKind.wrap .i64 ((((0 : Nat)) : Int) - (((0 : Nat)) : Int)) = 0 from rfl] at h
      omega
    subst h0
    exact ⟨rfl, hx2, hnew, ⟨none, 0, 0⟩, hB2, OwnS.none _ _ _, Nat.le_refl _, fun k hk => (ownB_none k hk).elim⟩

theorem WriteString {w0 w : World} {B cap : Nat} {l : List UInt8} (m : List UInt8) (h : Bld w0 w B l cap) (hr : l.length + m.length ≤ cap) :
    Ret Tryz.prog F.strings_Builder_WriteString #[.pointer (some ⟨B, 0, none⟩), .string (S m)] w (fun v w' => v = .tuple #[.int .i64 ((m.length : Nat) : Int), .nilIface] ∧ Bld w0 w' B (l ++ m) cap) := by
  obtain ⟨hx, hn, s, hB, ho, hcap, hf⟩ := h
  refine W.strings_Builder_WriteString_ok _ (S m) w _ ?_
  unfold W.strings_Builder_WriteString Nx
  refine (copyCheck0 (.inr rfl) hB).use ?_
  rintro _ w1 ⟨rfl, hB1, hc1⟩
  have hx1 : Ext w0 w1 := Ext.of_new hx hc1 (fun k hk => by subst hk; exact hn)
  have ho1 := ho.chg hc1 (fun k hk => (hf k hk).2)
  have hsl : s.len = l.length := by have := ho.1; rw [u8s_length, Nat.mul_one] at this; exact this.symm
  obtain ⟨g1, g2, g3, g4⟩ := ho1
  have hst : ∀ a, s.a = some a → StoreOk w1 (a.add s.len) (u8s m) := by
    intro a ha
    rcases g4 with ⟨hn, _⟩ | ⟨b, c, hbb, hblk, hcs, hv⟩
    · rw [hn] at ha; cases ha
    · rw [hbb] at ha
      cases ha
      rw [add_mk]
      exact hblk.storeOk _ _ (by rw [hcs, u8s_length]; omega) (u8s_plain m)
  have hrun := append_str_fit (oT := Ty.Sl_uint8) (w := w1) (s := s) m (by omega) hst
  refine ⟨rfl, _, rfl, s, by rw [add_mk, hB1.cell]; rfl, ⟨s.a, s.len + m.length, s.cap⟩, _, hrun, ?_⟩
  rcases g4 with ⟨hn2, hc0⟩ | ⟨b, c, hbb, hblk, hcs, hv⟩
  · have hm0 : m = [] := List.length_eq_zero_iff.1 (by omega)
    have hl0 : l = [] := List.length_eq_zero_iff.1 (by omega)
    subst hm0 hl0
    simp only [hn2]
    refine ⟨_, rfl, ⟨_, by rw [add_mk, hB1.cell]; rfl⟩, hB1.frozen _ rfl, rfl, ?_⟩
    rw [add_mk]
    refine ⟨hx1.set hn _, hn, ⟨none, 0, 0⟩, ?_, OwnS.none _ _ _, by omega, fun k hk => (ownB_none k hk).elim⟩
    have := hB1.set 1 (.slice none (s.len + 0) s.cap)
    rw [show s.len + 0 = 0 by simpa using hsl, hc0] at this
    rw [hc0]
    simpa [hsl] using this
  · simp only [hbb, add_mk, Nat.zero_add]
    have hbB := (hf b ⟨_, hbb, rfl⟩)
    have hB2 := hB1.sets_ne (A := ⟨b, s.len, none⟩) hbB.2 (u8s m) 0 hB1
    have hblk2 := Blk.sets (T := Ty.uint8) (u8s m) s.len 0 hblk
    have hx2 : Ext w0 (setCells w1 ⟨b, s.len, none⟩ 0 (u8s m)) := Ext.of_new hx1 (Chg.setsB (.refl _ _) (u8s m) 0) (fun k hk => by subst hk; exact hbB.1)
    refine ⟨_, rfl, ⟨_, by rw [add_mk, hB2.cell]; rfl⟩, hB2.frozen _ rfl, rfl, ?_⟩
    rw [add_mk]
    refine ⟨hx2.set hn _, hn, ⟨some ⟨b, 0, none⟩, s.len + m.length, s.cap⟩, hB2.set 1 _, ⟨?_, by show s.len + m.length ≤ s.cap; omega, g3, .inr ⟨b, _, rfl, hblk2.set_ne (fun e => hbB.2 e.symm) _, by rw [spl_size]; exact hcs, ?_⟩⟩, hcap, ?_⟩
    · rw [u8s_length, List.length_append]; show _ = (s.len + m.length) * 1; omega
    · have := take_spl (u8s m) c s.len (by rw [hcs, u8s_length]; omega)
      rw [u8s_length] at this
      rw [u8s_append]
      show List.take ((s.len + m.length) * 1) _ = _
      rw [Nat.mul_one, Nat.add_zero, this, ← hv, Nat.mul_one]
    · rintro k ⟨A, hA, hk⟩
      cases hA
      subst hk
      exact hbB

theorem BString {w0 w : World} {B cap : Nat} {l : List UInt8} (h : Bld w0 w B l cap) (h0 : l ≠ []) (hl : l.length ≤ 1000000000000) :
    Ret Tryz.prog F.strings_Builder_String #[.pointer (some ⟨B, 0, none⟩)] w (fun v w' => v = .string (S l) ∧ Ext w0 w') := by
  obtain ⟨hx, hn, s, hB, ho, hcap, hf⟩ := h
  refine W.strings_Builder_String_ok _ w _ ?_
  unfold W.strings_Builder_String Nx
  have hB1 := hB.drew
  have hx1 : Ext w0 w.drew := Chg.drew hx
  have hsl : s.len = l.length := by have := ho.1; rw [u8s_length, Nat.mul_one] at this; exact this.symm
  have hpos : 0 < l.length := List.length_pos_iff.2 h0
  obtain ⟨g1, g2, g3, g4⟩ := ho
  rcases g4 with ⟨hn2, hc0⟩ | ⟨b, c, hbb, hblk, hcs, hv⟩
  · omega
  · have hcell : w.drew.cell? ((Addr.mk B 0 none).add 1) = some (.slice s.a s.len s.cap) := by rw [add_mk, hB1.cell]; rfl
    have hbB := (hf b ⟨_, hbb, rfl⟩)
    refine ⟨fun _ => False, _, rfl, id, s, hcell, _, rfl, id, s, hcell, some ⟨b, 0, none⟩, w.drew, ?_, .refl _ _, S l, _, ?_, rfl, freeze_ext hx1 (A := ⟨b, 0, none⟩) hbB.1 l.length⟩
    · rw [hbb]
      have : s.cap ≠ 0 := by omega
      have hdef : ∀ (a : Addr) (l c : Nat), Builtin.unsafeSliceData_ #[Ty.Sl_uint8] Ty.P_uint8 #[.slice (some a) l c] = (if c ≠ 0 then pure (.pointer (some a)) else (do if (← viewAt a.block).isSome then pure (.pointer (some a)) else pure (.pointer (some ⟨← newObj (.view a (← elemOf Ty.P_uint8)), 0, none⟩)))) := fun _ _ _ => rfl
      rw [hdef, if_pos this]
      rfl
    · rw [hsl]
      exact unsafeString_blk l h0 hl hblk.drew (by rw [← hv, hsl, Nat.mul_one])

/-! ### Join -/
/-- Texts with a byte between. -/
def joinB (c : UInt8) : List (List UInt8) → List UInt8
  | [] => []
  | [l] => l
  | l :: m :: ls => l ++ c :: joinB c (m :: ls)

def tailB (c : UInt8) : List (List UInt8) → List UInt8
  | [] => []
  | l :: ls => c :: l ++ tailB c ls
theorem joinB_cons (c : UInt8) (l : List UInt8) : ∀ ls, joinB c (l :: ls) = l ++ tailB c ls
  | [] => by simp [joinB, tailB]
  | m :: ls => by simp [joinB, tailB, joinB_cons c m ls]
theorem tailB_append (c : UInt8) : ∀ (a b : List (List UInt8)), tailB c (a ++ b) = tailB c a ++ tailB c b
  | [], _ => rfl
  | l :: ls, b => by simp [tailB, tailB_append c ls b]

def sumLen : List (List UInt8) → Nat
  | [] => 0
  | l :: ls => l.length + sumLen ls
theorem sumLen_append : ∀ (a b : List (List UInt8)), sumLen (a ++ b) = sumLen a + sumLen b
  | [], _ => by simp [sumLen]
  | l :: ls, b => by simp [sumLen, sumLen_append ls b, Nat.add_assoc]
theorem tailB_length (c : UInt8) : ∀ ls, (tailB c ls).length = ls.length + sumLen ls
  | [] => rfl
  | l :: ls => by simp [tailB, sumLen, tailB_length c ls]; omega
theorem take_succ {α : Type} (ls : List α) {i : Nat} (h : i < ls.length) : ls.take (i + 1) = ls.take i ++ [ls[i]] := by
  rw [List.take_succ_eq_append_getElem h]

theorem Join1 (ls : List (List UInt8)) (c : UInt8) {s : Sl} {w : World} (hs : Src 1 w s (strs ls)) (hcap : s.len ≤ s.cap) (hn : ls.length ≤ 1000000) (hl : sumLen ls ≤ 100000000000) :
    Ret Tryz.prog F.strings_Join #[.slice s.a s.len s.cap, .string (S [c])] w (fun v w' => v = .string (S (joinB c ls)) ∧ Ext w w') := by
  refine W.strings_Join_ok s (S [c]) w _ ?_
  unfold W.strings_Join Nx
  have hsl : s.len = ls.length := by have := hs.len; rw [strs_length, Nat.mul_one] at this; exact this.symm
  have hget : ∀ {i : Nat} (h : i < ls.length), (strs ls)[i]? = some (.string (S ls[i])) := by
    intro i h; simp [strs, h]
  have e1 : ((ByteArray.size (S [c]) : Nat) : Int) = 1 := rfl
  rcases ls with _ | ⟨l0, _ | ⟨m, ls⟩⟩
  · exact ⟨fun _ => ⟨rfl, .refl _ _⟩, fun h => by rw [hsl] at h; simp at h⟩
  · refine ⟨fun h => by rw [hsl] at h; simp at h, fun _ => ⟨fun _ => ?_, fun h => by rw [hsl] at h; simp at h⟩⟩
    obtain ⟨A, hA, hb, hc⟩ := hs.at (hget (i := 0) (by simp))
    exact ⟨A, hA, hb, S l0, hc, rfl, .refl _ _⟩
  · simp only [List.length_cons] at hn hsl
    refine ⟨fun h => by have := eq_of_beq h; omega, fun _ => ⟨fun h => by have := eq_of_beq h; omega, fun _ => ?_⟩⟩
    refine Jn1 (fun n w1 => n = ((ls.length + 1 : Nat) : Int) ∧ w = w1) (fun q hq => ⟨fun _ => ?_, fun h => by have := of_decide_eq_false h; omega⟩) ?_
    · rw [wrapi (n := ((s.len : Nat) : Int) - 1) (by omega) (by omega)]
      refine Jn0 (fun w1 => w = w1) (fun q2 hq2 => ⟨by omega, fun h => ?_, fun _ => hq2 _ rfl⟩) ?_
      · exfalso
        have h := of_decide_eq_true h
        have hq1 : (9223372036854 : Int) ≤ 9223372036854775807 / (((s.len : Nat) : Int) - 1) := Int.le_ediv_of_mul_le (by omega) (by omega)
        have hq2 : (9223372036854775807 : Int) / (((s.len : Nat) : Int) - 1) ≤ 9223372036854775807 := Int.ediv_le_self _ (by decide)
        rw [tdiv_nn (by omega), wrapi (by omega) (by omega)] at h
        omega
      · rintro _ rfl
        refine hq _ _ ⟨?_, rfl⟩
        rw [e1, wrapi (n := 1 * (((s.len : Nat) : Int) - 1)) (by omega) (by omega), wrapi (by omega) (by omega)]
        omega
    rintro _ _ ⟨rfl, rfl⟩
    obtain ⟨all, hall⟩ : ∃ all, all = l0 :: m :: ls := ⟨_, rfl⟩
    rw [← hall] at hs hget hl
    have hlen : all.length = ls.length + 1 + 1 := by rw [hall]; rfl
    have hsum : ∀ i, sumLen (all.take i) ≤ sumLen all := by
      intro i
      have := sumLen_append (all.take i) (all.drop i)
      rw [List.take_append_drop] at this
      omega
    refine ⟨fun n i w' => ∃ k : Nat, i = k ∧ k ≤ all.length ∧ n = ((ls.length + 1 + sumLen (all.take k) : Nat) : Int) ∧ w = w', fun _ i _ => (all.length - i).toNat, ⟨0, rfl, Nat.zero_le _, by simp [sumLen], rfl⟩, ?_⟩
    rintro _ _ _ ⟨k, rfl, hk, rfl, rfl⟩
    have hsk := hsum k
    refine ⟨fun hlt => ?_, fun hge => ?_⟩
    · have hlt : k < all.length := by have := of_decide_eq_true hlt; omega
      obtain ⟨A, hA, hb, hc⟩ := hs.at (hget hlt)
      have hsk1 := hsum (k + 1)
      rw [take_succ all hlt, sumLen_append] at hsk1
      simp only [sumLen] at hsk1
      refine ⟨A, hA, hb, S all[k], hc, Jn0 (fun w1 => w = w1) (fun q hq => ⟨fun h => ?_, fun _ => hq _ rfl⟩) ?_⟩
      · exfalso
        have h := of_decide_eq_true h
        rw [S_size, wrapi (by omega) (by omega)] at h
        omega
      · rintro _ rfl
        rw [S_size, wrapi (by omega) (by omega), wrapi (n := (k : Int) + 1) (by omega) (by omega)]
        refine ⟨⟨k + 1, by omega, by omega, ?_, rfl⟩, ?_⟩
        · rw [take_succ all hlt, sumLen_append]
          simp only [sumLen]
          omega
        · show ((all.length : Int) - ((k : Int) + 1)).toNat < ((all.length : Int) - (k : Int)).toNat
          omega
    · have hge : k = all.length := by have := of_decide_eq_false hge; omega
      subst hge
      rw [List.take_length]
      have hB := Blk.new w #[.pointer none, .slice none 0 0] Ty.strings_Builder
      have hx0 : Ext w (w.alloc (.cells #[.pointer none, .slice none 0 0] Ty.strings_Builder)) := Chg.alloc (.refl _ _) _
      have hcapL : (ls.length + 1 + sumLen all) = (joinB c all).length := by
        rw [hall, joinB_cons, List.length_append, tailB_length]
        simp [sumLen]
        omega
      refine (Grow0 (ls.length + 1 + sumLen all) (by omega) hx0 (Nat.le_refl _) hB).use ?_
      rintro _ w2 ⟨rfl, hb2⟩
      have h0lt : 0 < all.length := by omega
      have hs2 := hs.ext hb2.ext
      obtain ⟨A, hA, hb, hc⟩ := hs2.at (hget h0lt)
      have hl0 : all[0] = l0 := by simp [hall]
      rw [hl0] at hc
      refine ⟨rfl, A, hA, hb, S l0, hc, ?_⟩
      refine (WriteString l0 hb2 (by rw [hcapL, hall, joinB_cons]; simp)).use ?_
      rintro _ w3 ⟨rfl, hb3⟩
      refine ⟨_, _, rfl, ⟨by decide, by omega⟩, ?_⟩
      have etl : all.tail = m :: ls := by rw [hall]; rfl
      have hgt : ∀ {i : Nat} (h : i < (m :: ls).length), (strs all)[i + 1]? = some (.string (S (m :: ls)[i])) := by
        intro i h
        rw [hget (i := i + 1) (by simp at h ⊢; omega)]
        simp [hall]
      refine ⟨fun i w' => ∃ k : Nat, i = k ∧ k ≤ (m :: ls).length ∧ Bld w w' w.heap.size (l0 ++ tailB c ((m :: ls).take k)) (ls.length + 1 + sumLen all), fun i _ => ((m :: ls).length - i).toNat, ⟨0, rfl, Nat.zero_le _, by simpa [tailB] using hb3⟩, ?_⟩
      rintro _ w4 ⟨k, rfl, hk, hb4⟩
      rw [show Int.toNat 1 = 1 from rfl]
      have hsl1 : ((s.len - 1 : Nat) : Int) = ls.length + 1 := by omega
      have hroom : ∀ j, (l0 ++ tailB c ((m :: ls).take j)).length ≤ ls.length + 1 + sumLen all := by
        intro j
        rw [hcapL, hall, joinB_cons]
        have := tailB_append c ((m :: ls).take j) ((m :: ls).drop j)
        rw [List.take_append_drop] at this
        rw [this]
        simp
      refine ⟨fun hlt => ?_, fun hge => ?_⟩
      · have hlt : k < (m :: ls).length := by have := of_decide_eq_true hlt; simp; omega
        have hs4 := hs.ext hb4.ext
        obtain ⟨A, hA, hb, hc⟩ := hs4.at (hgt hlt)
        have hcutA : cutA s.a 1 1 s.cap = some (A.add 1) ∨ s.cap = 1 := by
          by_cases e : s.cap = 1
          · exact .inr e
          · left; simp [cutA, e, hA]
        have hcap2 : s.cap ≠ 1 := by omega
        have hr1 := hroom (k + 1)
        rw [take_succ _ hlt, tailB_append] at hr1
        simp only [tailB, List.length_append, List.length_cons, List.length_nil] at hr1
        rcases hcutA with hcutA | e
        · refine ⟨_, hcutA, ⟨by omega, by simp at hlt; omega⟩, S (m :: ls)[k], ?_, ?_⟩
          · rw [add_add]
            have : 1 + Int.toNat (k : Int) * 1 = Int.toNat ((k + 1 : Nat) : Int) * 1 := by simp; omega
            rw [this]; exact hc
          refine (WriteString [c] hb4 (by simp only [List.length_append, List.length_cons, List.length_nil]; omega)).use ?_
          rintro _ w5 ⟨rfl, hb5⟩
          refine ⟨_, _, rfl, ?_⟩
          refine (WriteString (m :: ls)[k] hb5 (by simp only [List.length_append, List.length_cons, List.length_nil]; omega)).use ?_
          rintro _ w6 ⟨rfl, hb6⟩
          rw [wrapi (n := (k : Int) + 1) (by omega) (by simp at hlt; omega)]
          refine ⟨_, _, rfl, ⟨k + 1, by omega, by omega, ?_⟩, ?_⟩
          · rw [take_succ _ hlt, tailB_append]
            simpa [tailB] using hb6
          · show (((m :: ls).length : Int) - ((k : Int) + 1)).toNat < (((m :: ls).length : Int) - (k : Int)).toNat
            omega
        · exact absurd e hcap2
      · have hge : k = (m :: ls).length := by have := of_decide_eq_false hge; simp at hk ⊢; omega
        subst hge
        rw [List.take_length] at hb4
        have hj : l0 ++ tailB c (m :: ls) = joinB c all := by rw [hall, joinB_cons]
        rw [hj] at hb4
        refine (BString hb4 ?_ (by rw [← hcapL]; omega)).use ?_
        · rw [← hj]; simp [tailB]
        · rintro _ w5 ⟨rfl, hx5⟩
          exact ⟨_, rfl, by rw [hall], hx5⟩

end Go.Proofs.YtcjpgabpihkcjaaGreatDoor
