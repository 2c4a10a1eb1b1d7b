/- Contracts of the functions that the statement reaches, and the plain laws over them; each theorem stands with its conditions. -/
import Derived.Test.YtplieiecebljmaaGreatBNone4
namespace Go.Proofs.YtplieiecebljmaaGreat
open Go Gx
theorem lives08 (w : World) : Ret Tryz.prog F.law08_lives #[] w (fun v w' => v = .bool true ∧ Ext w w') := by
 refine W.law08_lives_ok w _ ?_
 (delta W.law08_lives c24 Br z5 nA c2 c23; dsimp only)
 refine (law08_Begin (n := 40) (by omega) (by omega) w).use ?_
 rintro _ w1 ⟨xb, T, rfl, hst, hx1, hxb, b1, b2, b3, b4, b5, b6, b7, b8, b9, b10, b11⟩
 obtain ⟨w9, k1, k2, k3, k4⟩ := constB w1 [97]
 obtain ⟨w12, m1, m2, m3, m4⟩ := constB w9 [49]
 have hX12 := k3.trans m3
 have hT12 := hst.t.ext hX12
 have hroom : roomT T = 38 := by unfold roomT; rw [b1, b5, b6]; decide
 have hput := tree_Put (L := []) (pages := []) (key := [97]) (val := [49]) hT12 (.inl ⟨b3, b2, rfl, rfl⟩) (by decide) List.nodup_nil (fun _ h => (by cases h)) (by omega) (k2.ext m3) (fun q hq => by
   obtain ⟨A, hA, rfl⟩ := hq
   cases hA
   exact ⟨by show w1.heap.size < _; omega, fun hm => by have h5 := hst.t.lt hm; have h6 : w1.heap.size < w1.heap.size := h5; omega⟩) m2 (fun q hq => by
   obtain ⟨A, hA, rfl⟩ := hq
   cases hA
   exact ⟨by show w9.heap.size < _; omega, fun hm => by have h5 := hst.t.lt hm; have h6 : w9.heap.size < w1.heap.size := h5; omega⟩)
 refine ⟨_, true, rfl, fun h => (by cases h), fun _ => ⟨_, rfl, _, by rw [add_mk]; exact hst.v.cell, nx ⟨⟨some ⟨w1.heap.size, 0, none⟩, 1, 1⟩, w9, k1, nx ⟨⟨some ⟨w9.heap.size, 0, none⟩, 1, 1⟩, w12, m1, hput.use ?_⟩⟩⟩⟩
 rintro _ w13 (⟨rfl, hbad, _⟩ | ⟨_, _, T', hT', hto, hE', hG', hcase⟩)
 · exact absurd ⟨⟨by decide, by decide⟩, by decide⟩ hbad
 rcases hcase with ⟨_, h6, _⟩ | ⟨rfl, _, ⟨pages, hok, hnd, hfp⟩, _⟩ | ⟨_, h6, _⟩
 · omega
 rotate_left
 · exact absurd (b8 100) h6
 have hxv : Var w13 xb _ Ty.law08_Stand := (hst.v.ext hX12).chg hto.chg fun hn => hst.nx (Tr.NM hn)
 obtain ⟨w20, n1, n2, n3, n4⟩ := constB w13 [97]
 have htb : T'.tb = T.tb := hto.tb
 have hld' : T'.C.D.ld ≤ 800000000 := by have := hto.ld; omega
 have hget := tree_Get (L := putL [] [97] [49]) (key := [97]) (hT'.ext n3) hok hld' n2 (fun q hq => by
   obtain ⟨A, hA, rfl⟩ := hq
   cases hA
   exact ⟨by show w13.heap.size < _; omega, fun hm => by have h5 := hT'.lt hm; have h6 : w13.heap.size < w13.heap.size := h5; omega⟩)
 rw [htb] at hget
 refine ⟨0, rfl, _, rfl, _, by rw [add_mk]; exact hxv.cell, nx ⟨⟨some ⟨w13.heap.size, 0, none⟩, 1, 1⟩, w20, n1, hget.use ?_⟩⟩
 rintro _ w21 ⟨C', _, hto2, _, hres⟩
 have hz1 := hx1.size
 have hz12 := hX12.size
 have hE13 : Ext w w13 := Ext.of_new (hx1.trans hX12) hto.chg fun q hq => b9 q (Tr.NM hq)
 have hE21 : Ext w w21 := Ext.of_new (hE13.trans n3) hto2.chg fun q hq => by
   rcases hto.fp q (Tr.NM hq) with h5 | h5
   · exact b9 q h5
   · omega
 rcases hres with ⟨rfl, h6⟩ | ⟨t, x, rfl, _, h6, ht⟩ | ⟨rfl, _, h6⟩
 · have : getL (putL [] [97] [49]) [97] = none := h6 ⟨by decide, by decide⟩
   exact absurd this (by decide)
 · have e : getL (putL [] [97] [49]) [97] = some [49] := by decide
   rw [e] at h6
   obtain rfl := Option.some.inj h6
   refine ⟨t, true, 0, rfl, Jn1 (fun b w' => b = true ∧ w21 = w') (fun q hq => ⟨fun _ => ⟨_, _, convS ht.1, hq _ _ ⟨?_, rfl⟩⟩, fun h => (by cases h)⟩) ?_⟩
   · exact beq_self_eq_true _
   · rintro _ _ ⟨rfl, rfl⟩
     exact ⟨rfl, hE21⟩
 · exact absurd (hto.calm 30 (b8 _)) h6
theorem few01 {w : World} {s : Sl} {l : List UInt8} (hs : Src 1 w s (u8s l)) (hc : s.len ≤ s.cap) (most : Nat) (hm : most ≤ 100000) : Ret Tryz.prog F.law01_Few #[.slice s.a s.len s.cap, .int .i64 (most : Nat)] w (fun v w' => ∃ s' : Sl, v = .slice s'.a s'.len s'.cap ∧ OwnS 1 Ty.uint8 w' s' (u8s (l.take most)) ∧ Ext w w' ∧ ∀ q, ownB s' q → w.heap.size ≤ q) := by
 have hlen := len8 hs
 refine W.law01_Few_ok s (most : Nat) w _ ?_
 delta W.law01_Few Br nA
 refine Jn1 (fun s2 w' => w = w' ∧ Src 1 w s2 (u8s (l.take most)) ∧ s2.len ≤ most) (fun q hq => ⟨fun h => ?_, fun h => ?_⟩) ?_
 · have h : most < l.length := by have := of_decide_eq_true h; omega
   refine ⟨⟨by omega, by omega⟩, hq _ _ ⟨rfl, ?_, by simp⟩⟩
   have := sub8 hs hc (lo := 0) (hi := most) (by omega) (by omega)
   simpa using this
 · have h : l.length ≤ most := by have := of_decide_eq_false h; omega
   rw [List.take_of_length_le h] at hq
   exact hq _ _ ⟨rfl, hs, by omega⟩
 rintro s2 _ ⟨rfl, h2, h3⟩
 obtain ⟨k', w21, g1, g2, g3, g4, g5, _⟩ := appByte.clone (oT := Ty.Sl_uint8) h2 (u8s_plain _) (by omega)
 exact nx ⟨k', w21, g1, k', rfl, g2, g4, g5⟩
instance (n : Nat) (root height : Int) : Decidable (goodT n root height) := by unfold goodT; infer_instance
theorem law_TreeNone {w : World} {key : Sl} {l : List UInt8} (hk : Src 1 w key (u8s l)) (hc : key.len ≤ key.cap) (root height : Int) : Ret Tryz.prog F.law08_TreeNone #[.int .i64 root, .int .i64 height, .slice key.a key.len key.cap] w (fun v w' => v = .bool true ∧ Ext w w') := by
 refine W.law08_TreeNone_ok root height key w _ ?_
 (delta W.law08_TreeNone c12 c23 c7 c4 c24 Br c20 c2 c3; dsimp only)
 refine (few01 hk hc 30 (by omega)).use ?_
 rintro _ w1 ⟨s3, rfl, hs3, hx1, _⟩
 have hget : Ret Tryz.prog F.tree_Tree_Get #[.pointer none, .slice s3.a s3.len s3.cap] w1 (fun v w' => v = .tuple #[.slice none 0 0, .bool false, .int .i64 1] ∧ w1 = w') := by
   refine W.tree_Tree_Get_ok none s3 w1 _ ?_
   (delta W.tree_Tree_Get Br c3 c4 wI r3 r1 z1 nA c5 bd; dsimp only)
   exact Jn1 (fun b w' => b = true ∧ w1 = w') (fun q hq => ⟨fun _ => hq _ _ ⟨rfl, rfl⟩, fun h => (by cases h)⟩) (by
     rintro _ _ ⟨rfl, rfl⟩
     exact ⟨fun _ => ⟨fun _ => ⟨rfl, rfl⟩, fun h => (by cases h)⟩, fun h => (by cases h)⟩)
 refine ⟨s3, rfl, hget.use ?_⟩
 rintro _ _ ⟨rfl, rfl⟩
 have hdel : Ret Tryz.prog F.tree_Tree_Delete #[.pointer none, .slice s3.a s3.len s3.cap] w1 (fun v w' => v = .tuple #[.bool false, .int .i64 1] ∧ w1 = w') := by
   refine W.tree_Tree_Delete_ok none s3 w1 _ ?_
   (delta W.tree_Tree_Delete Br c3 c4 wI r3 r1 c6 z1 nA c2; dsimp only)
   exact Jn1 (fun b w' => b = true ∧ w1 = w') (fun q hq => ⟨fun _ => hq _ _ ⟨rfl, rfl⟩, fun h => (by cases h)⟩) (by
     rintro _ _ ⟨rfl, rfl⟩
     exact ⟨fun _ => ⟨rfl, rfl⟩, fun h => (by cases h)⟩)
 refine ⟨⟨none, 0, 0⟩, false, 1, rfl, hdel.use ?_⟩
 rintro _ _ ⟨rfl, rfl⟩
 have hscan : Ret Tryz.prog F.tree_Tree_Scan #[.pointer none, .slice none 0 0, .slice none 0 0, .int .i64 5] w1 (fun v w' => v = .tuple #[.slice none 0 0, .int .i64 1] ∧ Ext w1 w') := by
   refine W.tree_Tree_Scan_ok none ⟨none, 0, 0⟩ ⟨none, 0, 0⟩ 5 w1 _ ?_
   (delta W.tree_Tree_Scan Br r2 nA r1 c7; dsimp only)
   refine nxVar (vs := [.slice none 0 0]) rfl fun wa _ hxa _ => nxVar (vs := [.slice none 0 0]) rfl fun wb _ hxb _ => nxVar (vs := [.int .i64 5]) rfl fun wc _ hxc _ => ⟨fun _ => ⟨rfl, (hxa.trans hxb).trans hxc⟩, fun h => (by cases h)⟩
 refine ⟨false, 1, rfl, hscan.use ?_⟩
 rintro _ w13 ⟨rfl, hx13⟩
 refine ⟨⟨none, 0, 0⟩, 1, rfl, (law08_Begin (n := 40) (by omega) (by omega) w13).use ?_⟩
 rintro _ w17 ⟨xb, T, rfl, hst, hx17, hxb, b1, b2, b3, b4, b5, b6, b7, b8, b9, b10, b11⟩
 refine ⟨_, true, rfl, fun h => (by cases h), fun _ => nx ?_⟩
 have hxd : Ext w17 w17.drew := ext_drew _
 have htd := hst.t.ext hxd
 have hvd := hst.v.ext hxd
 refine ⟨fun _ => False, _, rfl, id, _, by rw [add_mk]; exact hvd.cell, _, rfl, id, _, by rw [add_mk]; exact hvd.cell, (tree_New htd.ca.raw T.sb 1 root height).use ?_⟩
 have hn : T.C.D.n = 40 := by rw [htd.n, b1]
 have hgood : (((decide (height ≥ 0) && decide (height ≤ 12)) && decide (root ≥ 0)) && decide (root < 40) && ((root == 0) == (height == 0))) = decide (goodT T.C.D.n root height) := by
   rw [hn, Bool.eq_iff_iff]
   simp only [Bool.and_eq_true, decide_eq_true_eq, beq_iff_eq]
   unfold goodT
   rw [Bool.eq_iff_iff, beq_iff_eq, beq_iff_eq]
   constructor
   · rintro ⟨⟨⟨⟨g1, g2⟩, g3⟩, g4⟩, g5⟩
     exact ⟨g1, g2, g3, g4, g5⟩
   · rintro ⟨g1, g2, g3, g4, g5⟩
     exact ⟨⟨⟨⟨g1, g2⟩, g3⟩, g4⟩, g5⟩
 have hput : ∀ w27 : World, Ret Tryz.prog F.tree_Tree_Put #[.pointer none, .slice s3.a s3.len s3.cap, .slice none 0 0] w27 (fun v w' => v = .int .i64 1 ∧ w27 = w') := fun w27 => by
   refine W.tree_Tree_Put_ok none s3 ⟨none, 0, 0⟩ w27 _ ?_
   (delta W.tree_Tree_Put Br c3 r2 c2 wI c4 z1 nA r3 r1 T27 c6; dsimp only)
   exact Jn1 (fun b w' => b = true ∧ w27 = w') (fun q hq => ⟨fun _ => hq _ _ ⟨rfl, rfl⟩, fun h => (by cases h)⟩) (by
     rintro _ _ ⟨rfl, rfl⟩
     exact ⟨fun _ => ⟨rfl, rfl⟩, fun h => (by cases h)⟩)
 rintro v w27 hv
 obtain ⟨p29, n30, rfl, hp, hn30, hx27⟩ : ∃ (p29 : Option Addr) (n30 : Int), v = .tuple #[.pointer p29, .int .i64 n30] ∧ (!(Option.isNone p29)) = decide (goodT T.C.D.n root height) ∧ (n30 == 0) = decide (goodT T.C.D.n root height) ∧ Ext w17.drew w27 := by
   rcases hv with ⟨hg, rfl, hxg, _⟩ | ⟨hg, rfl, rfl⟩
   · exact ⟨_, _, rfl, by rw [decide_eq_true hg]; rfl, by rw [decide_eq_true hg]; rfl, hxg⟩
   · exact ⟨_, _, rfl, by rw [decide_eq_false hg]; rfl, by rw [decide_eq_false hg]; rfl, Chg.refl _ _⟩
 have hE27 : Ext w w27 := (((hx1.trans hx13).trans hx17).trans hxd).trans hx27
 refine ⟨p29, n30, rfl, Jn1 (fun b w' => b = true ∧ w27 = w') (fun q hq => ⟨fun _ => (hput w27).use ?_, fun h => (by cases h)⟩) ?_⟩
 · rintro _ _ ⟨rfl, rfl⟩
   exact ⟨1, rfl, hq _ _ ⟨rfl, rfl⟩⟩
 rintro _ _ ⟨rfl, rfl⟩
 refine Jn1 (fun b w' => b = true ∧ Ext w27 w') (fun q hq => ⟨fun _ => (lives08 w27).use ?_, fun h => ?_⟩) ?_
 · rintro _ w38 ⟨rfl, hx38⟩
   exact ⟨true, rfl, hq _ _ ⟨rfl, hx38⟩⟩
 · rw [hgood, hp, hn30] at h
   simp at h
 · rintro _ w42 ⟨rfl, hx42⟩
   exact ⟨rfl, hE27.trans hx42⟩
end Go.Proofs.YtplieiecebljmaaGreat
namespace Go.Proofs.YtplieiecebljmaaGreat
open Go Gx
theorem txt_of {w : World} {s : Sl} (h : IntsAt .u8 w s) : ∃ l : List UInt8, Src 1 w s (u8s l) := by
 obtain ⟨ns, _, h2, h3⟩ := h.src
 refine ⟨ns.map fun n => UInt8.ofNat n.toNat, ?_⟩
 have e : u8s (ns.map fun n => UInt8.ofNat n.toNat) = ns.map (.int .u8) := by
   unfold u8s
   rw [List.map_map]
   refine List.map_congr_left fun n hn => ?_
   have h4 := h2 n hn
   have e1 : IntKind.min .u8 = 0 := rfl
   have e2 : IntKind.max .u8 = 255 := rfl
   rw [e1, e2] at h4
   simp only [Function.comp]
   congr 1
   simp
   omega
 rw [e]; exact h3
end Go.Proofs.YtplieiecebljmaaGreat
