/- Backends in rows: Insert, Delete, Clone, the binary search. -/
import Derived.Test.YtldeegpcldhjaaaConfA
import Derived.Test.YtldeegpcldhjaaaGw
import Derived.Test.YtldeegpcldhjaaaWl
import Derived.Test.YtldeegpcldhjaaaWp
import Derived.Test.YtldeegpcldhjaaaWr
import Derived.Test.YtldeegpcldhjaaaWs
import Derived.Test.YtldeegpcldhjaaaWs2
namespace Go.Proofs.Ytldeegpcldhjaaa
open Go Gx

theorem appBk : AppT Try.prog Ty.Sl_api_Backend Ty.api_Backend 21 48 := ⟨by kernel_rfl⟩
/-- slices.Insert of one element. -/
theorem bk_Insert {s v : Sl} {vs xs : List Value} {i vb : Nat} {vc : Array Value} {vT : TypeId} {w : World} (ho : OwnS 21 Ty.api_Backend w s vs) (hv : Src 21 w v xs) (hvl : v.len = 1) (hva : v.a = some ⟨vb, 0, none⟩) (hvb : Blk w vb vc vT) (hne : ¬ ownB s vb)
    (hxp : ∀ u ∈ xs, Plain u) (hvp : ∀ u ∈ vs, Plain u) (hi : i ≤ s.len) (hn : s.len ≤ 1000000) :
    Ret Try.prog F.slices_Insert_Sl_api_Backend_api_Backend #[.slice s.a s.len s.cap, .int .i64 (i : Int), .slice v.a v.len v.cap] w (fun u w' => ∃ s' : Sl, u = .slice s'.a s'.len s'.cap ∧ OwnS 21 Ty.api_Backend w' s' (vs.take (i * 21) ++ xs ++ vs.drop (i * 21)) ∧ s'.len = s.len + 1 ∧ Chg (ownB s) w w' ∧ (∀ k, ownB s' k → ownB s k ∨ w.heap.size ≤ k)) := by
  obtain ⟨h1, i0, z0, h2, h3, h4, h5, h6, h7, h8⟩ := (appBk).out
  obtain ⟨d0, hd0⟩ := cells_of _ h3
  refine W.slices_Insert_Sl_api_Backend_api_Backend_ok s i v w _ ?_
  unfold W.slices_Insert_Sl_api_Backend_api_Backend
  have hlc := ho.2.1
  have hcm := ho.2.2.1
  have hmx : maxLen = 9223372036854775807 := rfl
  have hxl : xs.length = 21 := by have := hv.len; rw [hvl] at this; omega
  have hvl' := ho.1
  refine ⟨⟨by omega, by omega⟩, fun h => by rw [hvl] at h; simp at h, fun _ => ⟨fun h => ?_, fun h => ?_⟩⟩
  · have hi2 : i = s.len := by have := eq_of_beq h; omega
    subst hi2
    obtain ⟨s', w', g1, g2, g3, g4, g5⟩ := (appBk).append (oT := Ty.Sl_api_Backend) hv ho hxp (by rw [hvl]; omega)
    refine ⟨s', w', g1, s', rfl, ?_, by rw [g3, hvl], g4, g5⟩
    rwa [List.take_of_length_le (by omega), List.drop_of_length_le (by omega), List.append_nil]
  have hlt : i < s.len := by
    have h : ¬ ((i : Int) = (s.len : Int)) := fun e => by rw [e] at h; simp at h
    omega
  rcases ho.2.2.2 with ⟨_, hc⟩ | ⟨b, c, hb, hblk, hcs, hvs⟩
  · omega
  have hbv : b ≠ vb := fun e => hne ⟨_, hb, e⟩
  have e1 : IntKind.wrap .i64 (((s.len : Nat) : Int) + ((v.len : Nat) : Int)) = ((s.len + 1 : Nat) : Int) := by rw [hvl, wrapi (by omega) (by omega)]; rfl
  have e2 : IntKind.wrap .i64 ((i : Int) + ((v.len : Nat) : Int)) = ((i + 1 : Nat) : Int) := by rw [hvl, wrapi (by omega) (by omega)]; rfl
  have e3 : IntKind.wrap .i64 (((s.len + 1 : Nat) : Int) - (i : Int)) = ((s.len + 1 - i : Nat) : Int) := by rw [wrapi (by omega) (by omega)]; omega
  have hcl : c.toList.length = s.cap * 21 := by simpa using hcs
  have htk : ∀ k, k ≤ s.len → vs.take (k * 21) = c.toList.take (k * 21) := fun k hk => by rw [← hvs, List.take_take, Nat.min_eq_left (by omega)]
  have hdr : vs.drop (i * 21) = (c.toList.drop (i * 21)).take ((s.len - i) * 21) := by rw [← hvs, List.drop_take, show s.len * 21 - i * 21 = (s.len - i) * 21 by omega]
  have hdp : ∀ u ∈ vs.drop (i * 21), Plain u := fun u hu => hvp u (List.mem_of_mem_drop hu)
  have hdl : (vs.drop (i * 21)).length = (s.len - i) * 21 := by rw [List.length_drop, hvl']; omega
  have hcut : ∀ (bb o l m : Nat), l < m → cutA (some (Addr.mk bb o none)) 21 l m = some ⟨bb, o + l * 21, none⟩ := fun bb o l m hlm => cut_some (by omega)
  simp only [e1, e2, e3, Int.toNat_natCast, Nat.sub_zero, cut0']
  refine ⟨fun hg => ?_, fun hg => ?_⟩
  · have hgt : s.cap < s.len + 1 := by have := of_decide_eq_true hg; omega
    have hsrc : Src 21 w ⟨some ⟨b, 0, none⟩, i, s.cap⟩ (vs.take (i * 21)) := by
      have := hblk.srcAt (sz := 21) (o := 0) (n := i) (cap := s.cap) (by omega)
      rw [List.drop_zero] at this
      rwa [htk i (by omega)]
    obtain ⟨nc, zs, rest, g1, g2, g3, g4, g5⟩ := run_append_zeros (P := Try.prog) (ats := #[Ty.Sl_api_Backend, Ty.int]) (oT := Ty.Sl_api_Backend) (xT := Ty.int) (k := .i64) (s := ⟨some ⟨b, 0, none⟩, i, s.cap⟩) (n := s.len + 1 - i) rfl rfl h1 (by kernel_rfl) h2 h3 h4 h5 h6 (by rw [h7]; exact h8) hsrc (by show s.cap < i + _; omega) (by rw [h7]; show (2 * (i + _) + 1000) * _ ≤ _; omega)
    have ei : i + (s.len + 1 - i) = s.len + 1 := by omega
    simp only [ei] at g1 g4 g5
    obtain ⟨C, hC⟩ : ∃ C, C = (vs.take (i * 21) ++ zs ++ rest).toArray := ⟨_, rfl⟩
    rw [← hC] at g5
    obtain ⟨w4, hw4⟩ : ∃ w4, w4 = w.drew.alloc (.cells C Ty.api_Backend) := ⟨_, rfl⟩
    rw [← hw4] at g5
    have hB4 : Blk w4 w.heap.size C Ty.api_Backend := by rw [hw4]; exact Blk.new w.drew _ _
    have hx4 : Ext w w4 := by rw [hw4]; exact Chg.alloc (Chg.drew (.refl _ _)) _
    have htl : (vs.take (i * 21)).length = i * 21 := by rw [List.length_take, hvl']; omega
    have hCs : C.size = nc * 21 := by rw [hC]; simp [htl, g3, g4]; omega
    have hCl : C.toList.length = nc * 21 := by simpa using hCs
    have hcp1 := run_copy_rows (P := Try.prog) (dT := Ty.Sl_api_Backend) (sT := Ty.Sl_api_Backend) (ty := Ty.int) (A := ⟨w.heap.size, 0 + i * 21, none⟩) (dl := s.len + 1 - i) (dc := nc - i) (n := 1) h1 hd0 h6 (x := v) (by rw [hvl]; exact Nat.min_eq_left (by omega)) (xs := xs) (by have := hv.ext hx4; rw [← hvl]; exact this) (by rw [Nat.zero_add]; exact hB4.storeOk _ _ (by omega) hxp)
    obtain ⟨w6, hw6⟩ : ∃ w6, w6 = setCells w4 ⟨w.heap.size, 0 + i * 21, none⟩ 0 xs := ⟨_, rfl⟩
    rw [← hw6] at hcp1
    have hB6 : Blk w6 w.heap.size (spl C (i * 21) xs) Ty.api_Backend := by rw [hw6, Nat.zero_add]; exact hB4.set0 xs
    have hx6 : Ext w w6 := by rw [hw6]; exact Ext.of_new hx4 (Chg.setsB (.refl _ _) xs 0) (fun k hk => by subst hk; exact Nat.le_refl _)
    have hd6 : Ext w6 w6.drew := Chg.drew (.refl _ _)
    have hx7 := Ext.trans hx6 hd6
    have hcp2 := run_copy_rows (P := Try.prog) (w := w6.drew) (dT := Ty.Sl_api_Backend) (sT := Ty.Sl_api_Backend) (ty := Ty.int) (A := ⟨w.heap.size, 0 + (i + 1) * 21, none⟩) (dl := s.len + 1 - (i + 1)) (dc := nc - (i + 1)) (n := s.len - i) h1 hd0 h6 (x := ⟨some ⟨b, 0 + i * 21, none⟩, s.len - i, s.cap - i⟩) (Nat.min_eq_left (by show s.len - i ≤ _; omega)) (xs := vs.drop (i * 21))
      (by have := (hblk.ext hx7).srcAt (sz := 21) (o := i * 21) (n := s.len - i) (cap := s.cap - i) (by omega); rw [hdr, Nat.zero_add]; exact this) (by rw [Nat.zero_add]; exact Blk.storeOk (Blk.drew hB6) _ _ (by rw [spl_size]; omega) hdp)
    have ecut1 : cutA (some (Addr.mk w.heap.size 0 none)) 21 i nc = some ⟨w.heap.size, 0 + i * 21, none⟩ := hcut _ _ _ _ (by omega)
    have ecut2 : cutA (some (Addr.mk w.heap.size 0 none)) 21 (i + 1) nc = some ⟨w.heap.size, 0 + (i + 1) * 21, none⟩ := hcut _ _ _ _ (by omega)
    have ecut3 : cutA s.a 21 i s.cap = some ⟨b, 0 + i * 21, none⟩ := by rw [hb]; exact hcut _ _ _ _ (by omega)
    have hg5 : Sem.run Try.prog (Builtin.append_ #[Ty.Sl_api_Backend, Ty.int] Ty.Sl_api_Backend #[.slice s.a i s.cap, .int .i64 ((s.len + 1 - i : Nat) : Int)]) w = .ok (.slice (some ⟨w.heap.size, 0, none⟩) (s.len + 1) nc) w4 := by rw [hb]; exact g5
    refine ⟨⟨by omega, by omega⟩, ⟨some ⟨w.heap.size, 0, none⟩, s.len + 1, nc⟩, w4, hg5, ⟨by omega, by show (i : Int) ≤ ((s.len + 1 : Nat) : Int); omega⟩, _, w6, by rw [ecut1]; exact hcp1, nx ⟨⟨by omega, by show ((i + 1 : Nat) : Int) ≤ ((s.len + 1 : Nat) : Int); omega⟩, ⟨by omega, by omega⟩, _, _, by rw [ecut2, ecut3]; exact hcp2, ⟨some ⟨w.heap.size, 0, none⟩, s.len + 1, nc⟩, rfl, ?_, rfl, ?_, ?_⟩⟩
    · refine OwnS.mk' ((Blk.drew hB6).set0 (o := 0 + (i + 1) * 21) _) (by simp [htl, hxl, hdl]; omega) (by omega) (by omega) (by rw [spl_size, spl_size, hCs]) ?_
      rw [toList_spl _ _ _ (by rw [spl_size]; omega), toList_spl _ _ _ (by omega)]
      have t1 : C.toList.take (i * 21) = vs.take (i * 21) := by rw [hC, List.toList_toArray, List.append_assoc]; exact List.take_left' htl
      have t2 : (C.toList.take (i * 21) ++ xs ++ C.toList.drop (i * 21 + xs.length)).take (0 + (i + 1) * 21) = vs.take (i * 21) ++ xs := by
        rw [t1, List.take_append_of_le_length (by simp [htl, hxl]; omega), List.take_of_length_le (by simp [htl, hxl]; omega)]
      rw [t2, List.take_append_of_le_length (by simp [htl, hxl, hdl]; omega), List.take_of_length_le (by simp [htl, hxl, hdl]; omega)]
    · exact Chg.of_ext (Ext.of_new hx7 (Chg.setsB (.refl _ _) _ 0) (fun k hk => by subst hk; exact Nat.le_refl _))
    · rintro k ⟨A, hA, hk⟩
      cases hA
      exact .inr (Nat.le_of_eq hk)
  · have hle : s.len + 1 ≤ s.cap := by have := of_decide_eq_false hg; omega
    have ecut1 : cutA s.a 21 (i + 1) s.cap = some ⟨b, 0 + (i + 1) * 21, none⟩ := by rw [hb]; exact hcut _ _ _ _ (by omega)
    have ecut2 : cutA s.a 21 i s.cap = some ⟨b, 0 + i * 21, none⟩ := by rw [hb]; exact hcut _ _ _ _ (by omega)
    have hov : Sem.run Try.prog (callFunc F.slices_overlaps_api_Backend #[.slice v.a v.len v.cap, .slice (some ⟨b, 0 + (i + 1) * 21, none⟩) (s.len + 1 - (i + 1)) (s.cap - (i + 1))]) w = .ok (.value (.bool false)) w := by
      rw [hva, run_callFunc_extern (e := Extern.SlicesOverlaps.overlaps #[Ty.Sl_api_Backend, Ty.Sl_api_Backend] #[Ty.bool]) Try.func67 (by kernel_rfl) (by kernel_rfl) (by kernel_rfl) (by kernel_rfl)]
      have := Lib.run_overlaps_apart (P := Try.prog) w Ty.Sl_api_Backend Ty.bool Ty.api_Backend h1 21 (fun w => by have := run_sizeOf' (w := w) hd0; rwa [h6] at this) ⟨vb, 0, none⟩ ⟨b, 0 + (i + 1) * 21, none⟩ v.len v.cap (s.len + 1 - (i + 1)) (s.cap - (i + 1)) (fun e => hbv e.symm) vT Ty.api_Backend vc.size c.size
        (by have := hvb; unfold Blk at this; simp [World.shape?, this]) (by have := hblk; unfold Blk at this; simp [World.shape?, this]) (by omega) (hvb.frozen _ rfl) (hvb.frozen _ rfl)
      rw [this]; rfl
    have hcp1 := run_copy_rows (P := Try.prog) (w := w.drew) (dT := Ty.Sl_api_Backend) (sT := Ty.Sl_api_Backend) (ty := Ty.int) (A := ⟨b, 0 + (i + 1) * 21, none⟩) (dl := s.len + 1 - (i + 1)) (dc := s.cap - (i + 1)) (n := s.len - i) h1 hd0 h6 (x := ⟨some ⟨b, 0 + i * 21, none⟩, s.len + 1 - i, s.cap - i⟩) ((Nat.min_eq_right (by show _ ≤ s.len + 1 - i; omega)).trans (by omega)) (xs := vs.drop (i * 21))
      (by have := (Blk.drew hblk).srcAt (sz := 21) (o := i * 21) (n := s.len - i) (cap := s.cap - i) (by omega); rw [hdr, Nat.zero_add]; exact this) (by rw [Nat.zero_add]; exact Blk.storeOk (Blk.drew hblk) _ _ (by omega) hdp)
    obtain ⟨w3, hw3⟩ : ∃ w3, w3 = setCells w.drew ⟨b, 0 + (i + 1) * 21, none⟩ 0 (vs.drop (i * 21)) := ⟨_, rfl⟩
    rw [← hw3] at hcp1
    have hB3 : Blk w3 b (spl c ((i + 1) * 21) (vs.drop (i * 21))) Ty.api_Backend := by rw [hw3, Nat.zero_add]; exact (Blk.drew hblk).set0 _
    have hc3 : Chg (ownB s) w w3 := by
      rw [hw3]
      exact Chg.mono (W := fun q => q = b) (Chg.setsB (Chg.drew (.refl _ _)) _ 0) (fun k _ hk => ⟨_, hb, hk.symm⟩)
    have hv3 : Src 21 w3 v xs := hv.chg hc3 (fun k hk hk2 => by obtain ⟨A, hA, rfl⟩ := hk; rw [hva] at hA; cases hA; exact hne hk2)
    have hcp2 := run_copy_rows (P := Try.prog) (w := w3) (dT := Ty.Sl_api_Backend) (sT := Ty.Sl_api_Backend) (ty := Ty.int) (A := ⟨b, 0 + i * 21, none⟩) (dl := s.len + 1 - i) (dc := s.cap - i) (n := 1) h1 hd0 h6 (x := v) (by rw [hvl]; exact Nat.min_eq_left (by omega)) (xs := xs) (by rw [← hvl]; exact hv3) (by rw [Nat.zero_add]; exact hB3.storeOk _ _ (by rw [spl_size]; omega) hxp)
    refine ⟨⟨by omega, by omega⟩, ⟨by omega, by omega⟩, false, w, by rw [ecut1]; exact hov, fun _ => nx ⟨⟨by omega, by omega⟩, ⟨by omega, by omega⟩, _, w3, by rw [ecut1, ecut2]; exact hcp1, ⟨by omega, by omega⟩, _, _, by rw [ecut2]; exact hcp2, ⟨s.a, s.len + 1, s.cap⟩, rfl, ?_, rfl, ?_, fun k hk => .inl hk⟩, fun h => by simp at h⟩
    · have hso : OwnS 21 Ty.api_Backend (setCells w3 ⟨b, 0 + i * 21, none⟩ 0 xs) ⟨some ⟨b, 0, none⟩, s.len + 1, s.cap⟩ (vs.take (i * 21) ++ xs ++ vs.drop (i * 21)) := by
        have htl : (vs.take (i * 21)).length = i * 21 := by rw [List.length_take, hvl']; omega
        refine OwnS.mk' (hB3.set0 (o := 0 + i * 21) _) (by simp [htl, hxl, hdl]; omega) (by omega) (by omega) (by rw [spl_size, spl_size, hcs]) ?_
        rw [toList_spl _ _ _ (by rw [spl_size]; omega), toList_spl _ _ _ (by omega)]
        have t1 : (c.toList.take ((i + 1) * 21) ++ vs.drop (i * 21) ++ c.toList.drop ((i + 1) * 21 + (vs.drop (i * 21)).length)).take (0 + i * 21) = vs.take (i * 21) := by
          rw [Nat.zero_add, List.take_append_of_le_length (by simp [hdl]; omega), List.take_append_of_le_length (by simp; omega), List.take_take, htk i (by omega), Nat.min_eq_left (by omega)]
        have t2 : (c.toList.take ((i + 1) * 21) ++ vs.drop (i * 21) ++ c.toList.drop ((i + 1) * 21 + (vs.drop (i * 21)).length)).drop (0 + i * 21 + xs.length) = vs.drop (i * 21) ++ c.toList.drop ((i + 1) * 21 + (vs.drop (i * 21)).length) := by
          have hl : (c.toList.take ((i + 1) * 21)).length = 0 + i * 21 + xs.length := by simp; omega
          rw [List.append_assoc, ← hl, List.drop_left]
        rw [t1, t2, ← List.append_assoc, List.take_append_of_le_length (by simp [htl, hxl, hdl]; omega), List.take_of_length_le (by simp [htl, hxl, hdl]; omega)]
      rw [← hb] at hso
      exact hso
    · exact hc3.trans (Chg.mono (W := fun q => q = b) (Chg.setsB (.refl _ _) _ 0) (fun k _ hk => ⟨_, hb, hk.symm⟩))
/-- slices.Delete of one element. -/
theorem bk_Delete {s : Sl} {vs : List Value} {i : Nat} {w : World} (ho : OwnS 21 Ty.api_Backend w s vs) (hvp : ∀ u ∈ vs, Plain u) (hzp : ∀ z, (Try.prog.info? Ty.api_Backend).bind (·.zero) = some z → ∀ u ∈ z.cells.toList, Plain u) (hi : i < s.len) (hn : s.len ≤ 1000000) :
    Ret Try.prog F.slices_Delete_Sl_api_Backend_api_Backend #[.slice s.a s.len s.cap, .int .i64 (i : Int), .int .i64 ((i + 1 : Nat) : Int)] w (fun u w' => ∃ s' : Sl, u = .slice s'.a s'.len s'.cap ∧ OwnS 21 Ty.api_Backend w' s' (vs.take (i * 21) ++ vs.drop ((i + 1) * 21)) ∧ s'.len = s.len - 1 ∧ s'.a = s.a ∧ Chg (ownB s) w w') := by
  obtain ⟨h1, i0, z0, h2, h3, h4, h5, h6, h7, h8⟩ := (appBk).out
  obtain ⟨d0, hd0⟩ := cells_of _ h3
  refine W.slices_Delete_Sl_api_Backend_api_Backend_ok s i ((i + 1 : Nat) : Int) w _ ?_
  unfold W.slices_Delete_Sl_api_Backend_api_Backend
  have hlc := ho.2.1
  have hcm := ho.2.2.1
  have hvl' := ho.1
  rcases ho.2.2.2 with ⟨_, hc⟩ | ⟨b, c, hb, hblk, hcs, hvs⟩
  · omega
  have hcl : c.toList.length = s.cap * 21 := by simpa using hcs
  simp only [Int.toNat_natCast, Nat.sub_zero, cut0']
  have hdr : vs.drop ((i + 1) * 21) = (c.toList.drop ((i + 1) * 21)).take ((s.len - (i + 1)) * 21) := by rw [← hvs, List.drop_take, show s.len * 21 - (i + 1) * 21 = (s.len - (i + 1)) * 21 by omega]
  have hdl : (vs.drop ((i + 1) * 21)).length = (s.len - (i + 1)) * 21 := by rw [List.length_drop, hvl']; omega
  have htk : vs.take (i * 21) = c.toList.take (i * 21) := by rw [← hvs, List.take_take, Nat.min_eq_left (by omega)]
  have htl : (vs.take (i * 21)).length = i * 21 := by rw [List.length_take, hvl']; omega
  have hdp : ∀ u ∈ vs.drop ((i + 1) * 21), Plain u := fun u hu => hvp u (List.mem_of_mem_drop hu)
  have hBd : Blk w.drew b c Ty.api_Backend := Blk.drew hblk
  have hsrc : Src 21 w.drew ⟨cutA s.a 21 (i + 1) s.cap, s.len - (i + 1), s.cap - (i + 1)⟩ (vs.drop ((i + 1) * 21)) := by
    by_cases he : i + 1 = s.cap
    · have e0 : s.len - (i + 1) = 0 := by omega
      refine ⟨by rw [hdl], fun _ => List.length_eq_zero_iff.1 (by rw [hdl, e0, Nat.zero_mul]), fun a _ => ?_⟩
      have : vs.drop ((i + 1) * 21) = [] := List.length_eq_zero_iff.1 (by rw [hdl, e0, Nat.zero_mul])
      rw [this]
      show rdCells _ _ 0 ((s.len - (i + 1)) * 21) = _
      rw [e0, Nat.zero_mul]; rfl
    · rw [hb, cut_some (by omega), hdr, Nat.zero_add]
      exact hBd.srcAt (by omega)
  have hap := run_append_fit (P := Try.prog) (ats := #[Ty.Sl_api_Backend, Ty.Sl_api_Backend]) (oT := Ty.Sl_api_Backend) (s := ⟨s.a, i, s.cap⟩) rfl rfl h1 h1 hd0 h6 hsrc (by show i + (s.len - (i + 1)) ≤ s.cap; omega) (fun a ha => by
    have ha : s.a = some a := ha
    rw [hb] at ha; cases ha
    rw [add_mk, Nat.zero_add]
    exact hBd.storeOk _ _ (by show i * 21 + _ ≤ _; omega) hdp)
  have en : i + (s.len - (i + 1)) = s.len - 1 := by omega
  simp only [hb, add_mk, Nat.zero_add, en] at hap
  obtain ⟨w3, hw3⟩ : ∃ w3, w3 = setCells w.drew ⟨b, i * 21, none⟩ 0 (vs.drop ((i + 1) * 21)) := ⟨_, rfl⟩
  rw [← hw3] at hap
  have hB3 : Blk w3 b (spl c (i * 21) (vs.drop ((i + 1) * 21))) Ty.api_Backend := by rw [hw3]; exact hBd.set0 _
  have hc3 : Chg (ownB s) w w3 := by
    rw [hw3]
    exact Chg.mono (W := fun q => q = b) (Chg.setsB (Chg.drew (.refl _ _)) _ 0) (fun k _ hk => ⟨_, hb, hk.symm⟩)
  obtain ⟨zs, hzl, hcr⟩ := run_clear_rows (P := Try.prog) (w := w3) (T := Ty.Sl_api_Backend) (o := Ty.t) (n := 1) (c := s.cap - (s.len - 1)) (A := ⟨b, (s.len - 1) * 21, none⟩) h1 h2 h4 h5 (by decide) (fun zs hzs => by
    refine hB3.storeOk _ _ (by rw [hzs, spl_size]; simp [Builtin.zeroCells, h5]; omega) fun u hu => ?_
    rw [hzs] at hu
    simp only [Builtin.zeroCells, Array.toList_map, List.mem_map] at hu
    obtain ⟨j, hj, rfl⟩ := hu
    have hj : j < 1 * z0.cells.size := by simpa using hj
    have hjm : j % z0.cells.size < z0.cells.size := Nat.mod_lt _ (by omega)
    have hg : z0.cells[j % z0.cells.size]! = z0.cells[j % z0.cells.size] := getElem!_pos z0.cells (j % z0.cells.size) hjm
    rw [hg]
    exact hzp z0 (by rw [h2]; exact h4) _ (by simp))
  have ecut : cutA (some (Addr.mk b 0 none)) 21 (s.len - 1) s.cap = some ⟨b, (s.len - 1) * 21, none⟩ := by rw [cut_some (by omega), Nat.zero_add]
  have en2 : s.len - (s.len - 1) = 1 := by omega
  refine ⟨⟨by omega, by omega⟩, ⟨by omega, by omega⟩, ⟨by omega, by omega⟩, fun h => ?_, fun _ => nx ⟨⟨by omega, by omega⟩, ⟨by omega, by omega⟩, ⟨some ⟨b, 0, none⟩, s.len - 1, s.cap⟩, w3, by rw [hb]; exact hap, ⟨by omega, by show ((s.len : Nat) : Int) ≤ ((s.cap : Nat) : Int); omega⟩, ⟨by omega, by show ((s.len - 1 : Nat) : Int) ≤ ((s.len : Nat) : Int); omega⟩, _, _, by rw [en2, ecut]; exact hcr, ⟨some ⟨b, 0, none⟩, s.len - 1, s.cap⟩, rfl, ?_, rfl, hb.symm, ?_⟩⟩
  · have := eq_of_beq h; omega
  · refine OwnS.mk' (hB3.set0 _) (by simp [htl, hdl]; omega) (by omega) hcm (by rw [spl_size, spl_size, hcs]) ?_
    rw [toList_spl _ _ _ (by rw [spl_size]; omega), toList_spl _ _ _ (by omega)]
    have t1 : (c.toList.take (i * 21) ++ vs.drop ((i + 1) * 21) ++ c.toList.drop (i * 21 + (vs.drop ((i + 1) * 21)).length)).take ((s.len - 1) * 21) = vs.take (i * 21) ++ vs.drop ((i + 1) * 21) := by
      rw [← htk, List.take_append_of_le_length (by simp [htl, hdl]; omega), List.take_of_length_le (by simp [htl, hdl]; omega)]
    rw [t1, List.append_assoc, List.take_append_of_le_length (by simp [htl, hdl]; omega), List.take_of_length_le (by simp [htl, hdl]; omega)]
  · exact hc3.trans (Chg.mono (W := fun q => q = b) (Chg.setsB (.refl _ _) _ 0) (fun k _ hk => ⟨_, hb, hk.symm⟩))


def bksC (l : List Bk) : List Value := (l.map Bk.c).flatten
theorem bksC_length : ∀ l : List Bk, (bksC l).length = l.length * 21
  | [] => rfl
  | b :: l => by
    show (b.c ++ bksC l).length = _
    rw [List.length_append, bksC_length l, Bk.c_length, List.length_cons]; omega
theorem Bk.plain (b : Bk) : ∀ v ∈ b.c, Plain v := by
  intro v hv
  rcases List.mem_cons.1 hv with rfl | hv
  · trivial
  rcases List.mem_append.1 hv with hv | hv
  · exact b.addr.plain v hv
  · simp only [List.mem_cons, List.not_mem_nil, or_false] at hv
    rcases hv with rfl | rfl | rfl <;> trivial
theorem bksC_plain (l : List Bk) : ∀ v ∈ bksC l, Plain v := by
  intro v hv
  obtain ⟨x, hx, hv⟩ := List.mem_flatten.1 hv
  obtain ⟨b, _, rfl⟩ := List.mem_map.1 hx
  exact b.plain v hv
theorem bksC_app (a b : List Bk) : bksC (a ++ b) = bksC a ++ bksC b := by simp [bksC]
theorem bksC_one (b : Bk) : bksC [b] = b.c := by simp [bksC]
theorem bksC_take : ∀ (l : List Bk) (k : Nat), (bksC l).take (k * 21) = bksC (l.take k)
  | [], k => by simp [bksC]
  | b :: l, 0 => by simp [bksC]
  | b :: l, k + 1 => by
    show (b.c ++ bksC l).take _ = b.c ++ bksC (l.take k)
    rw [List.take_append, List.take_of_length_le (by rw [Bk.c_length]; omega), Bk.c_length, show (k + 1) * 21 - 21 = k * 21 by omega, bksC_take l k]
theorem bksC_drop : ∀ (l : List Bk) (k : Nat), (bksC l).drop (k * 21) = bksC (l.drop k)
  | [], k => by simp [bksC]
  | b :: l, 0 => by simp [bksC]
  | b :: l, k + 1 => by
    show (b.c ++ bksC l).drop _ = bksC (l.drop k)
    rw [List.drop_append, List.drop_of_length_le (by rw [Bk.c_length]; omega), Bk.c_length, show (k + 1) * 21 - 21 = k * 21 by omega, bksC_drop l k, List.nil_append]
theorem bksC_at {l : List Bk} {i : Nat} (h : i < l.length) : ((bksC l).drop (i * 21)).take 21 = (l[i]).c := by
  rw [bksC_drop, List.drop_eq_getElem_cons h]
  show ((l[i]).c ++ bksC _).take 21 = _
  exact List.take_left' (Bk.c_length _)
/-- Backends that can be read. -/
abbrev BR (w : World) (s : Sl) (l : List Bk) : Prop := Src 21 w s (bksC l)
theorem BR.len {w : World} {s : Sl} {l : List Bk} (h : BR w s l) : s.len = l.length := by
  have := Src.len h
  rw [bksC_length] at this; omega
theorem BR.get {w : World} {s : Sl} {l : List Bk} (h : BR w s l) {i : Nat} (hi : i < l.length) : ∃ A, s.a = some A ∧ ((0 : Int) ≤ (i : Int) ∧ (i : Int) < ((s.len : Nat) : Int)) ∧ rdCells w (A.add (Int.toNat (i : Int) * 21)) 0 21 = some (l[i]).c := by
  have hl := BR.len h
  cases ha : s.a with
  | none =>
    have := congrArg List.length (h.nil ha)
    rw [bksC_length, List.length_nil] at this
    omega
  | some A =>
    refine ⟨A, rfl, ⟨by omega, by omega⟩, ?_⟩
    rw [Int.toNat_natCast, rdPart (h.rd A ha) (by rw [hl]; omega), bksC_at hi]

theorem bk_Clone {s : Sl} {l : List Bk} {w : World} (hs : BR w s l) (hn : l.length ≤ 1000000) :
    Ret Try.prog F.slices_Clone_Sl_api_Backend_api_Backend #[.slice s.a s.len s.cap] w (fun v w' => ∃ s' : Sl, v = .slice s'.a s'.len s'.cap ∧ OwnS 21 Ty.api_Backend w' s' (bksC l) ∧ s'.len = l.length ∧ Ext w w' ∧ ∀ k, ownB s' k → w.heap.size ≤ k) := by
  refine W.slices_Clone_Sl_api_Backend_api_Backend_ok s w _ ?_
  unfold W.slices_Clone_Sl_api_Backend_api_Backend
  have hl := BR.len hs
  refine ⟨fun h => ?_, fun _ => ?_⟩
  · have ha : s.a = none := by cases ha : s.a with
      | none => rfl
      | some A => rw [ha] at h; cases h
    have hv := hs.nil ha
    have h0 : l.length = 0 := by
      have := congrArg List.length hv
      rw [bksC_length, List.length_nil] at this; omega
    exact ⟨⟨none, 0, 0⟩, rfl, by rw [hv]; exact OwnS.none _ _ _, h0.symm, .refl _ _, fun k hk => (ownB_none k hk).elim⟩
  · obtain ⟨s', w', h1, h2, h3, h4, h5, _⟩ := appBk.clone (oT := Ty.Sl_api_Backend) hs (bksC_plain l) (by omega)
    exact ⟨⟨some ⟨w.heap.size, 0, none⟩, 0, 0⟩, _, by kernel_rfl, s', w', h1, s', rfl, h2, by rw [h3, hl], h4, h5⟩

theorem cmp_isNaN_int (x : Int) (w : World) : Ret Try.prog F.cmp_isNaN_int #[.int .i64 x] w (fun v w' => v = .bool false ∧ w = w') := by
  refine W.cmp_isNaN_int_ok x w _ ?_
  unfold W.cmp_isNaN_int
  simp
def cmpI (a b : Int) : Int := if a < b then -1 else if a > b then 1 else 0
theorem cmp_Compare_int (x y : Int) (w : World) : Ret Try.prog F.cmp_Compare_int #[.int .i64 x, .int .i64 y] w (fun v w' => v = .int .i64 (cmpI x y) ∧ w = w') := by
  refine W.cmp_Compare_int_ok x y w _ ?_
  unfold W.cmp_Compare_int
  refine (cmp_isNaN_int x w).use ?_
  rintro _ _ ⟨rfl, rfl⟩
  refine ⟨_, rfl, (cmp_isNaN_int y w).use ?_⟩
  rintro _ _ ⟨rfl, rfl⟩
  refine ⟨_, rfl, fun h => by simp at h, fun _ => ⟨fun h => by simp at h, fun _ => ⟨fun h => ?_, fun h => ⟨fun h2 => ?_, fun h2 => ?_⟩⟩⟩⟩
  · have h := of_decide_eq_true h
    exact ⟨by unfold cmpI; rw [if_pos h], rfl⟩
  · have h := of_decide_eq_false h
    have h2 := of_decide_eq_true h2
    exact ⟨by unfold cmpI; rw [if_neg h, if_pos h2], rfl⟩
  · have h := of_decide_eq_false h
    have h2 := of_decide_eq_false h2
    exact ⟨by unfold cmpI; rw [if_neg h, if_neg h2], rfl⟩

/-- Backends by rising ids; a backend's place, or where it would be; whether it is there. -/
def Rise (l : List Bk) : Prop := l.Pairwise fun a b => a.id < b.id
def posB (l : List Bk) (id : Int) : Nat := l.findIdx fun b => decide (id ≤ b.id)
def hasB (l : List Bk) (id : Int) : Bool := l.any fun b => b.id == id
theorem Rise.lt {l : List Bk} (h : Rise l) {i j : Nat} (hi : i < j) (hj : j < l.length) : (l[i]).id < (l[j]).id := List.pairwise_iff_getElem.1 h i j (by omega) hj hi
theorem posB_eq {l : List Bk} {id : Int} {a : Nat} (ha : a ≤ l.length) (h1 : ∀ (j : Nat) (h : j < l.length), j < a → (l[j]).id < id) (h2 : ∀ (j : Nat) (h : j < l.length), a ≤ j → id ≤ (l[j]).id) : posB l id = a := by
  unfold posB
  rcases Nat.lt_or_ge a l.length with h | h
  · exact (List.findIdx_eq h).2 ⟨decide_eq_true (h2 a h (Nat.le_refl _)), fun j hj => decide_eq_false (by have := h1 j (by omega) hj; omega)⟩
  · have : a = l.length := by omega
    subst this
    refine List.findIdx_eq_length_of_false fun x hx => ?_
    obtain ⟨j, hj, rfl⟩ := List.getElem_of_mem hx
    exact decide_eq_false (by have := h1 j hj hj; omega)
theorem posB_le (l : List Bk) (id : Int) : posB l id ≤ l.length := List.findIdx_le_length
theorem posB_lo {l : List Bk} {id : Int} {j : Nat} (h : j < posB l id) : (l[j]'(Nat.lt_of_lt_of_le h (posB_le l id))).id < id := by
  have := List.not_of_lt_findIdx h
  simp only [Bool.not_eq_true, decide_eq_false_iff_not] at this
  omega
theorem posB_hi {l : List Bk} (hr : Rise l) {id : Int} {j : Nat} (h : posB l id ≤ j) (hj : j < l.length) : id ≤ (l[j]).id := by
  have hp : posB l id < l.length := by omega
  have h1 : id ≤ (l[posB l id]).id := by
    have := List.findIdx_getElem (w := hp)
    exact of_decide_eq_true this
  rcases Nat.lt_or_ge (posB l id) j with h2 | h2
  · have := hr.lt h2 hj; omega
  · have : j = posB l id := by omega
    subst this; exact h1
theorem hasB_at {l : List Bk} (hr : Rise l) (id : Int) : hasB l id = true ↔ ∃ h : posB l id < l.length, (l[posB l id]).id = id := by
  unfold hasB
  rw [List.any_eq_true]
  constructor
  · rintro ⟨b, hb, he⟩
    obtain ⟨j, hj, rfl⟩ := List.getElem_of_mem hb
    have he := eq_of_beq he
    have h1 : ¬ j < posB l id := fun h => by have := posB_lo h; omega
    refine ⟨by omega, ?_⟩
    have h2 := posB_hi hr (Nat.le_refl (posB l id)) (by omega)
    rcases Nat.lt_or_ge (posB l id) j with h3 | h3
    · have := hr.lt h3 hj; omega
    · have : j = posB l id := by omega
      subst this; exact he
  · rintro ⟨h, he⟩
    exact ⟨_, List.getElem_mem h, by simp [he]⟩

theorem farm_at_1 (b : Bk) (id : Int) (w : World) : Ret Try.prog F.farm_at_1 #[.agg b.c.toArray, .int .i64 id] w (fun v w' => v = .int .i64 (cmpI b.id id) ∧ Ext w w') := by
  refine W.farm_at_1_ok _ id w _ ?_
  unfold W.farm_at_1
  refine nxVar (vs := b.c) rfl fun w1 hv hx1 _ => ⟨b.id, hv.cell, (cmp_Compare_int b.id id w1).use ?_⟩
  rintro _ _ ⟨rfl, rfl⟩
  exact ⟨_, rfl, rfl, hx1⟩

theorem bk_Search {s : Sl} {l : List Bk} (id : Int) {w : World} (hs : BR w s l) (hr : Rise l) (hn : l.length ≤ 1000000) :
    Ret Try.prog F.slices_BinarySearchFunc_Sl_api_Backend_api_Backend_int #[.slice s.a s.len s.cap, .int .i64 id, .func (.func F.farm_at_1) #[] #[]] w (fun v w' => v = .tuple #[.int .i64 ((posB l id : Nat) : Int), .bool (hasB l id)] ∧ Ext w w') := by
  refine W.slices_BinarySearchFunc_Sl_api_Backend_api_Backend_int_ok s id ⟨F.farm_at_1, #[], #[]⟩ w _ ?_
  unfold W.slices_BinarySearchFunc_Sl_api_Backend_api_Backend_int
  have hl := BR.len hs
  have hcall : Callable Try.prog F.farm_at_1 := ⟨_, (Option.some_get (show (Try.prog.funcs[F.farm_at_1]?).isSome = true by kernel_rfl)).symm, by kernel_rfl, by kernel_rfl⟩
  refine ⟨fun lo hi w' => ∃ a b : Nat, lo = a ∧ hi = b ∧ a ≤ b ∧ b ≤ l.length ∧ Ext w w' ∧ (∀ (j : Nat) (h : j < l.length), j < a → (l[j]).id < id) ∧ (∀ (j : Nat) (h : j < l.length), b ≤ j → id ≤ (l[j]).id), fun lo hi _ => (hi - lo).toNat,
    ⟨0, l.length, rfl, by rw [hl], Nat.zero_le _, Nat.le_refl _, .refl _ _, fun j _ h => by omega, fun j h h2 => by omega⟩, ?_⟩
  rintro _ _ w5 ⟨a, b, rfl, rfl, hab, hb, hx5, h1, h2⟩
  have hm := mid_wrap (a := a) (b := b) (by omega)
  refine ⟨fun h => ?_, fun h => ?_⟩
  · have hlt : (a : Int) < (b : Int) := of_decide_eq_true h
    rw [hm]
    obtain ⟨m, hmd⟩ : ∃ m, m = (a + b) / 2 := ⟨_, rfl⟩
    rw [← hmd]
    have hm1 : a ≤ m := by omega
    have hm2 : m < b := by omega
    obtain ⟨A, hA, hbd, hrd⟩ := BR.get (hs.ext hx5) (i := m) (by omega)
    refine ⟨by decide, A, hA, hbd, _, hrd, hcall, (farm_at_1 _ id w5).use ?_⟩
    rintro _ w8 ⟨rfl, hx8⟩
    have hX8 := Ext.trans hx5 hx8
    have hw : IntKind.wrap .i64 ((m : Int) + 1) = ((m + 1 : Nat) : Int) := by rw [wrapi (by omega) (by omega)]; rfl
    refine ⟨_, rfl, fun hc => ?_, fun hc => ?_⟩
    · have hc := of_decide_eq_true hc
      have hlt2 : (l[m]).id < id := by
        unfold cmpI at hc
        split at hc
        · assumption
        · split at hc <;> omega
      rw [hw]
      have hms : ((b : Int) - ((m + 1 : Nat) : Int)).toNat < ((b : Int) - (a : Int)).toNat := by omega
      refine ⟨⟨m + 1, b, rfl, rfl, by omega, hb, hX8, fun j hj hja => ?_, h2⟩, hms⟩
      rcases Nat.lt_or_ge j m with h3 | h3
      · have := hr.lt h3 (by omega : m < l.length); omega
      · have : j = m := by omega
        subst this; exact hlt2
    · have hc := of_decide_eq_false hc
      have hge : id ≤ (l[m]).id := by
        unfold cmpI at hc
        split at hc
        · omega
        · omega
      have hms : ((m : Int) - (a : Int)).toNat < ((b : Int) - (a : Int)).toNat := by omega
      refine ⟨⟨a, m, rfl, rfl, hm1, by omega, hX8, h1, fun j hj hja => ?_⟩, hms⟩
      rcases Nat.lt_or_ge m j with h3 | h3
      · have := hr.lt h3 hj; omega
      · have : j = m := by omega
        subst this; exact hge
  · have hge : ¬ (a : Int) < (b : Int) := of_decide_eq_false h
    have hba : b = a := by omega
    subst hba
    have hp : posB l id = b := posB_eq hb h1 h2
    refine Jn1 (fun c w' => Ext w w' ∧ c = hasB l id) (fun q hq => ⟨fun h => ?_, fun h => ?_⟩) ?_
    · have hlt : (b : Int) < ((s.len : Nat) : Int) := of_decide_eq_true h
      have hlt : b < l.length := by omega
      obtain ⟨A, hA, hbd, hrd⟩ := BR.get (hs.ext hx5) hlt
      refine ⟨A, hA, hbd, _, hrd, hcall, (farm_at_1 _ id w5).use ?_⟩
      rintro _ w8 ⟨rfl, hx8⟩
      refine ⟨_, rfl, hq _ _ ⟨Ext.trans hx5 hx8, ?_⟩⟩
      rw [Bool.eq_iff_iff, hasB_at hr, beq_iff_eq]
      constructor
      · intro hc
        refine ⟨by omega, ?_⟩
        simp only [hp]
        unfold cmpI at hc
        split at hc
        · omega
        · split at hc <;> omega
      · rintro ⟨_, he⟩
        simp only [hp] at he
        unfold cmpI
        rw [if_neg (by omega), if_neg (by omega)]
    · have hge : ¬ (b : Int) < ((s.len : Nat) : Int) := of_decide_eq_false h
      refine hq _ _ ⟨hx5, ?_⟩
      symm
      rw [Bool.eq_false_iff]
      intro hc
      obtain ⟨h3, _⟩ := (hasB_at hr id).1 hc
      omega
    · rintro _ w8 ⟨hx8, rfl⟩
      exact ⟨by rw [hp], hx8⟩

end Go.Proofs.Ytldeegpcldhjaaa
