/- Contracts of the functions that the statement reaches, and the plain laws over them; each theorem stands with its conditions. -/
import Derived.Test.YtplieiecebljmaaGreatBNone1
namespace Go.Proofs.YtplieiecebljmaaGreat
open Go Gx
def nd0 : Nd := ⟨false, [], [], []⟩
def nil3 : Sl := ⟨none, 0, 0⟩
def DecNV (leaf : Bool) (l : List UInt8) (w w' : World) (v : Value) : Prop :=
 (∃ (n : Nd) (K V D : Sl), v = .tuple #[ndV n K V D, .int .i64 0] ∧ DecOk leaf l n ∧ NdAt (fun q => w.heap.size ≤ q) w' n K V D) ∨
 (v = .tuple #[ndV nd0 nil3 nil3 nil3, .int .i64 4] ∧ ∀ n, ¬ DecOk leaf l n)
theorem retN {w' : World} {h : Nat} {vs : List Value} (b : Bool) (K V D : Sl) (hv : Var w' h vs Ty.api_Node) (hl : vs.length = 4) {Q : Bool → Sl → Sl → Sl → World → Prop} (hQ : ∀ w2, Chg (fun q => q = h) w' w2 → Q b K V D w2) :
   StoreOk w' ⟨h, 0, none⟩ [.bool b, .slice K.a K.len K.cap, .slice V.a V.len V.cap, .slice D.a D.len D.cap] ∧ (4 : Nat) = 4 ∧ Nx (setCells w' ⟨h, 0, none⟩ 0 [.bool b, .slice K.a K.len K.cap, .slice V.a V.len V.cap, .slice D.a D.len D.cap]) fun w2 =>
     ∃ b3 : Bool, w2.cell? ⟨h, 0, none⟩ = some (.bool b3) ∧ ∃ s4 : Sl, w2.cell? (Addr.add ⟨h, 0, none⟩ 1) = some (.slice s4.a s4.len s4.cap) ∧ ∃ s5 : Sl, w2.cell? (Addr.add ⟨h, 0, none⟩ 2) = some (.slice s5.a s5.len s5.cap) ∧
       ∃ s6 : Sl, w2.cell? (Addr.add ⟨h, 0, none⟩ 3) = some (.slice s6.a s6.len s6.cap) ∧ Q b3 s4 s5 s6 w2 := by
 refine ⟨hv.storeOk (by rw [hl]; rfl) ?_, rfl, nxPut hv (us := [.bool b, .slice K.a K.len K.cap, .slice V.a V.len V.cap, .slice D.a D.len D.cap]) (by rw [hl]; rfl) rfl fun w2 hv2 hc _ => ?_⟩
 · intro v hv
   simp only [List.mem_cons, List.not_mem_nil, or_false] at hv
   rcases hv with rfl | rfl | rfl | rfl <;> trivial
 · obtain ⟨c0, c1, c2, c3⟩ := ndCells hv2
   exact ⟨b, c0, K, c1, V, c2, D, c3, hQ w2 hc⟩
theorem node_Decode {w : World} {s : Sl} {l : List UInt8} (hs : Src 1 w s (u8s l)) (hc : s.len ≤ s.cap) (hin : ∀ k, ownB s k → k < w.heap.size) (hl : l.length ≤ 100000) (leaf : Bool) :
   Ret Tryz.prog F.node_Decode #[.bool leaf, .slice s.a s.len s.cap] w (fun v w' => DecNV leaf l w w' v ∧ Ext w w') := by
 refine W.node_Decode_ok leaf s w _ ?_
 (delta W.node_Decode z1 nA c2 Br T11 r1 st c12 wI r3 c4 c3 T12; dsimp only)
 refine nxVar (vs := [.bool false, .slice none 0 0, .slice none 0 0, .slice none 0 0]) rfl fun w1 hz1 hx1 hs1 => ?_
 refine nxVar (vs := [.slice s.a s.len s.cap, .bool true]) rfl fun w2 hr2 hx2 hs2 => ?_
 refine nxVar (vs := [.bool false, .slice none 0 0, .slice none 0 0, .slice none 0 0]) rfl fun w3 hn3 hx3 hs3 => ?_
 refine ⟨hn3.storeOk rfl (by
   intro v hv
   simp only [List.mem_cons, List.not_mem_nil, or_false] at hv
   rcases hv with rfl | rfl | rfl | rfl <;> trivial), rfl, nxPut hn3 (us := [.bool leaf, .slice none 0 0, .slice none 0 0, .slice none 0 0]) rfl rfl fun w4 hn4 hc4 hs4 => ?_⟩
 obtain ⟨lo, hlo⟩ : ∃ lo, lo = w4.heap.size := ⟨_, rfl⟩
 obtain ⟨r, hr⟩ : ∃ r, r = w1.heap.size := ⟨_, rfl⟩
 obtain ⟨nb, hnb⟩ : ∃ nb, nb = w2.heap.size := ⟨_, rfl⟩
 have hX4 : Ext w w4 := Ext.of_chg (hx1.trans (hx2.trans hx3)) hc4 (by omega)
 have hrd4 : RdAt w4 w1.heap.size s (l, true) := by
   refine ⟨(hr2.ext hx3).chg hc4 (by omega), (hs.ext (hx1.trans (hx2.trans hx3))).chg hc4 fun k hk e => ?_, hc, fun k hk => ?_⟩
   · have := hin k hk; omega
   · have := hin k hk; omega
 refine (reader_number hrd4 1 (by decide) hl).use ?_
 rintro _ w5 ⟨s5, rfl, hrd5, hc5, ho5⟩
 have hN : (rdNum (l, true) 1).1 < 256 := rdNum_lt _ 1
 have hs5 := hc5.size
 have st5 : DecSt lo w5 r nb s5 (⟨leaf, [], [], []⟩, (rdNum (l, true) 1).2) nil3 nil3 nil3 (fun _ => False) (fun _ => False) (fun _ => False) := by
   refine ⟨by rw [hnb]; exact hn4.chg hc5 (by omega), by rw [hr]; exact hrd5, TxO.none _ _, TxO.none _ _, InO.none _ _, fun q h => h.elim, fun q h => h.elim, fun q h => h.elim, fun q hq => ?_, by omega, by omega, by omega, Nat.le_trans (rdNum_len _ 1) hl⟩
   have := hin q (ho5 q hq)
   exact ⟨by omega, by omega⟩
 have hc5' : Chg (DecW lo r nb) w4 w5 := hc5.mono fun k _ hk => .inl (by omega)
 rw [← hr, ← hnb]
 refine ⟨_, rfl, Jn0 (fun w' => ∃ (s' D : Sl) (BD : Nat → Prop), DecSt lo w' r nb s' (decHead leaf (rdNum (l, true) 1).2) nil3 nil3 D (fun _ => False) (fun _ => False) BD ∧ Chg (DecW lo r nb) w4 w' ∧ lo ≤ w'.heap.size) (fun q hq => ⟨fun hlf => ?_, fun hlf => hq _ ⟨s5, nil3, fun _ => False, ?_, hc5', by omega⟩⟩) ?_⟩
 · have hlf : leaf = false := by simpa using hlf
   subst hlf
   refine segD st5 (by omega) (by simp) fun w' D' s' BD' h1 h2 h3 => hq _ ⟨s', D', BD', ?_, hc5'.trans h2, h3⟩
   have : decHead false (rdNum (l, true) 1).2 = (⟨false, [], [], [] ++ [(rdNum (rdNum (l, true) 1).2 2).1]⟩, (rdNum (rdNum (l, true) 1).2 2).2) := by simp [decHead]
   rw [this]; exact h1
 · have hlf : leaf = true := by simpa using hlf
   subst hlf
   exact st5
 rintro w6 ⟨s6, D6, BD6, st6, hc6, hl6⟩
 obtain ⟨m0, hm0⟩ : ∃ m0, m0 = decHead leaf (rdNum (l, true) 1).2 := ⟨_, rfl⟩
 rw [← hm0] at st6
 have hm0l : m0.1.leaf = leaf := by rw [hm0]; unfold decHead; cases leaf <;> rfl
 have hm0k : m0.1.keys.length = 0 ∧ m0.1.vals.length ≤ 1 ∧ m0.1.kids.length ≤ 1 := by rw [hm0]; unfold decHead; cases leaf <;> simp
 refine ⟨fun i w' => ∃ (j : Nat) (s' K V D : Sl) (BK BV BD : Nat → Prop), i = j ∧ j ≤ (rdNum (l, true) 1).1 ∧ DecSt lo w' r nb s' (decIter m0 j) K V D BK BV BD ∧ Chg (DecW lo r nb) w4 w' ∧ lo ≤ w'.heap.size, fun i _ => (((rdNum (l, true) 1).1 : Int) - i).toNat, ⟨0, s6, nil3, nil3, D6, _, _, BD6, rfl, Nat.zero_le _, st6, hc6, hl6⟩, ?_⟩
 rintro _ w7 ⟨j, s7, K, V, D, BK, BV, BD, rfl, hj, st7, hc7, hl7⟩
 obtain ⟨hf1, hf2, hf3⟩ := decIter_few m0 j
 have hlf7 := decIter_leaf m0 j hm0l
 refine ⟨fun hlt => ?_, fun hge => ?_⟩
 · have hlt : j < (rdNum (l, true) 1).1 := by have := of_decide_eq_true hlt; omega
   rw [wrapi (n := (j : Int) + 1) (by omega) (by omega)]
   refine Jn0 (fun w' => ∃ (s' K V D : Sl) (BK BV BD : Nat → Prop), DecSt lo w' r nb s' (decIter m0 (j + 1)) K V D BK BV BD ∧ Chg (DecW lo r nb) w4 w' ∧ lo ≤ w'.heap.size) (fun q hq => ?_) ?_
   · refine segK st7 hl7 (by omega) fun w8 K8 s8 BK8 st8 hc8 hl8 => ⟨fun hlf => ?_, fun hlf => ?_⟩
     · refine segV st8 hl8 (by show (decIter m0 j).1.vals.length ≤ _; omega) fun w9 V9 s9 BV9 st9 hc9 hl9 => hq _ ⟨s9, K8, V9, D, BK8, BV9, BD, ?_, hc7.trans (hc8.trans hc9), hl9⟩
       rw [decIter]
       unfold decStep
       rw [hlf7, hlf, if_pos rfl]
       rw [hlf7, hlf] at st9
       exact st9
     · refine segD st8 hl8 (by show (decIter m0 j).1.kids.length ≤ _; omega) fun w9 D9 s9 BD9 st9 hc9 hl9 => hq _ ⟨s9, K8, V, D9, BK8, BV, BD9, ?_, hc7.trans (hc8.trans hc9), hl9⟩
       rw [decIter]
       unfold decStep
       rw [hlf7, hlf, if_neg (by simp)]
       rw [hlf7, hlf] at st9
       exact st9
   · rintro w8 ⟨s8, K8, V8, D8, BK8, BV8, BD8, st8, hc8, hl8⟩
     refine ⟨⟨j + 1, s8, K8, V8, D8, BK8, BV8, BD8, by omega, by omega, st8, hc8, hl8⟩, ?_⟩
     show (((rdNum (l, true) 1).1 : Int) - ((j : Int) + 1)).toNat < (((rdNum (l, true) 1).1 : Int) - (j : Int)).toNat
     omega
 · have hge : j = (rdNum (l, true) 1).1 := by have := of_decide_eq_false hge; omega
   have hrun : decIter m0 j = decRun leaf l := by rw [hge, hm0]; rfl
   rw [hrun] at st7 hf1 hf2 hf3 hlf7
   obtain ⟨c0, c1, c2, c3⟩ := ndCells st7.v
   have hnd : NdAt (fun q => lo ≤ q) w7 (decRun leaf l).1 K V D := ⟨TxR.weak (TxO.txR st7.keys) fun q _ hq => (st7.bk q hq).1, TxR.weak (TxO.txR st7.vals) fun q _ hq => (st7.bv q hq).1, InR.weak (InO.inR st7.kids) fun q _ hq => (st7.bd q hq).1⟩
   have hX7 : Ext w w7 := Ext.of_new hX4 hc7 fun k hk => by
     rcases hk with hk | hk | hk <;> omega
   refine ⟨_, c0, K, c1, V, c2, D, c3, (node_encode hnd (by omega) (by omega) (by omega)).use ?_⟩
   rintro v8 w8 ⟨hE, hx8⟩
   have hX8 := hX7.trans hx8
   have hv8 := st7.v.ext hx8
   have hrd8 := st7.rd.ext hx8
   have hz8 : Var w8 w.heap.size [.bool false, .slice none 0 0, .slice none 0 0, .slice none 0 0] Ty.api_Node := by
     refine (Var.chg (w := w4) ?_ hc7 ?_).ext hx8
     · exact (((hz1.ext hx2).ext hx3).chg hc4 (by omega))
     · rintro (hk | hk | hk) <;> omega
   have hnd8 := hnd.ext hx8
   obtain ⟨d0, d1, d2, d3⟩ := ndCells hv8
   have hE2 : ∃ (sE : Sl) (e : Int), v8 = Value.tuple #[.slice sE.a sE.len sE.cap, .int .i64 e] ∧ (e = 0 → OwnS 1 Ty.uint8 w8 sE (u8s (encN (decRun leaf l).1)) ∧ SoundN (decRun leaf l).1 ∧ nsize (decRun leaf l).1 ≤ 232) ∧ (e ≠ 0 → SoundN (decRun leaf l).1 → 232 < nsize (decRun leaf l).1) := by
     rcases hE with ⟨sE, rfl, h1, h2, h3, h4⟩ | ⟨e, rfl, h1, h2⟩
     · exact ⟨sE, 0, rfl, fun _ => ⟨h1, h3, h4⟩, fun h => absurd rfl h⟩
     · exact ⟨nil3, e, rfl, fun h => absurd h h1, fun _ => h2⟩
   obtain ⟨sE, e, rfl, hEok, hEno⟩ := hE2
   have hsrc8 : Src 1 w8 s (u8s l) := hs.ext hX8
   -- what a node of these bytes would be
   have huniq : ∀ n, DecOk leaf l n → decRun leaf l = (n, ([], true)) := by
     rintro n ⟨h1, h2, h3, h4⟩
     have := decRun_enc h1 h3
     rw [h2, h4] at this
     exact this
   refine ⟨sE, e, rfl, _, rfl, (decRun leaf l).2.2, by rw [add_mk]; exact hrd8.v.cell, Jn1 (fun b w' => w8 = w' ∧ (b = true → ∀ n, ¬ DecOk leaf l n) ∧ (b = false → DecOk leaf l (decRun leaf l).1)) (fun q hq => ⟨fun h1 => hq _ _ ⟨rfl, fun _ n hn => ?_, fun h => (by cases h)⟩, fun h1 => ?_⟩) ?_⟩
   · have hu := huniq n hn
     obtain ⟨h2, h3, h4, h5⟩ := hn
     rw [hu] at h1 hEno
     have h1 : (e != 0) = true := by simpa using h1
     have h9 : 232 < nsize n := hEno (by simpa using h1) h2
     omega
   · have h1' : (decRun leaf l).2.2 = true ∧ e = 0 := by
       simp only [Bool.or_eq_false_iff, Bool.not_eq_false', bne_eq_false_iff_eq] at h1
       exact h1
     obtain ⟨h2, rfl⟩ := h1'
     obtain ⟨h3, h4, h5⟩ := hEok rfl
     refine (bytes_Equal h3.src hsrc8).use ?_
     rintro _ _ ⟨rfl, rfl⟩
     refine ⟨_, rfl, hq _ _ ⟨rfl, fun h6 n hn => ?_, fun h6 => ?_⟩⟩
     · have hu := huniq n hn
       have h6 : ¬ encN (decRun leaf l).1 = l := by simpa using h6
       rw [hu] at h6
       exact h6 hn.2.2.2
     · have h6 : encN (decRun leaf l).1 = l := by simpa using h6
       exact ⟨h4, hlf7, h5, h6⟩
   rintro b w' ⟨rfl, g1, g2⟩
   refine ⟨fun hb => ?_, fun hb => ⟨_, d0, K, d1, V, d2, D, d3, ?_⟩⟩
   · refine retN false nil3 nil3 nil3 hz8 rfl (Q := fun b K V D w2 => (fun v w' => DecNV leaf l w w' v ∧ Ext w w') (.tuple #[.agg #[.bool b, .slice K.a K.len K.cap, .slice V.a V.len V.cap, .slice D.a D.len D.cap], .int .i64 4]) w2) fun w9 hc9 => ⟨.inr ⟨rfl, g1 hb⟩, Ext.of_chg hX8 hc9 (Nat.le_refl _)⟩
   · refine retN (decRun leaf l).1.leaf K V D hz8 rfl (Q := fun b K V D w2 => (fun v w' => DecNV leaf l w w' v ∧ Ext w w') (.tuple #[.agg #[.bool b, .slice K.a K.len K.cap, .slice V.a V.len V.cap, .slice D.a D.len D.cap], .int .i64 0]) w2) fun w9 hc9 => ⟨.inl ⟨(decRun leaf l).1, K, V, D, rfl, g2 hb, ?_⟩, Ext.of_chg hX8 hc9 (Nat.le_refl _)⟩
     exact (hnd8.chg hc9 fun k hk e => by omega).weak fun k _ hk => by omega
end Go.Proofs.YtplieiecebljmaaGreat
namespace Go.Proofs.YtplieiecebljmaaGreat
open Go Gx
theorem tx_Insert {s v : Sl} {vs xs : List Value} {i vb : Nat} {vc : Array Value} {vT : TypeId} {w : World} (ho : OwnS 1 Ty.Sl_uint8 w s vs) (hv : Src 1 w v xs) (hvl : v.len = 1) (hva : v.a = some ⟨vb, 0, none⟩) (hvb : Blk w vb vc vT) (hne : ¬ ownB s vb)
   (hxp : ∀ u ∈ xs, Plain u) (hvp : ∀ u ∈ vs, Plain u) (hi : i ≤ s.len) (hn : s.len ≤ 1000000) :
   Ret Tryz.prog F.slices_Insert_Sl_Sl_byte_Sl_byte #[.slice s.a s.len s.cap, .int .i64 (i : Int), .slice v.a v.len v.cap] w (fun u w' => ∃ s' : Sl, u = .slice s'.a s'.len s'.cap ∧ OwnS 1 Ty.Sl_uint8 w' s' (vs.take (i * 1) ++ xs ++ vs.drop (i * 1)) ∧ s'.len = s.len + 1 ∧ Chg (ownB s) w w' ∧ (∀ k, ownB s' k → ownB s k ∨ w.heap.size ≤ k)) := by
 obtain ⟨h1, i0, z0, h2, h3, h4, h5, h6, h7, h8⟩ := (appTx).out
 obtain ⟨d0, hd0⟩ := cells_of _ h3
 refine W.slices_Insert_Sl_Sl_byte_Sl_byte_ok s i v w _ ?_
 (delta W.slices_Insert_Sl_Sl_byte_Sl_byte Br wI c1; dsimp only)
 have hlc := ho.2.1
 have hcm := ho.2.2.1
 have hmx : maxLen = 9223372036854775807 := rfl
 have hxl : xs.length = 1 := by have := hv.len; rw [hvl] at this; omega
 have hvl' := ho.1
 refine ⟨⟨by omega, by omega⟩, fun h => by rw [hvl] at h; simp at h, fun _ => ⟨fun h => ?_, fun h => ?_⟩⟩
 · have hi2 : i = s.len := by have := eq_of_beq h; omega
   subst hi2
   obtain ⟨s', w', g1, g2, g3, g4, g5⟩ := (appTx).append (oT := Ty.Sl_Sl_uint8) hv ho hxp (by rw [hvl]; omega)
   refine ⟨s', w', g1, s', rfl, ?_, by rw [g3, hvl], g4, g5⟩
   rwa [List.take_of_length_le (by omega), List.drop_of_length_le (by omega), List.append_nil]
 have hlt : i < s.len := by
   have h : ¬ ((i : Int) = (s.len : Int)) := fun e => by rw [e] at h; simp at h
   omega
 rcases ho.2.2.2 with ⟨_, hc⟩ | ⟨b, c, hb, hblk, hcs, hvs⟩
 · omega
 have hbv : b ≠ vb := fun e => hne ⟨_, hb, e⟩
 have e1 : IntKind.wrap .i64 (((s.len : Nat) : Int) + ((v.len : Nat) : Int)) = ((s.len + 1 : Nat) : Int) := by rw [hvl, wrapi (by omega) (by omega)]; rfl
 have e2 : IntKind.wrap .i64 ((i : Int) + ((v.len : Nat) : Int)) = ((i + 1 : Nat) : Int) := by rw [hvl, wrapi (by omega) (by omega)]; rfl
 have e3 : IntKind.wrap .i64 (((s.len + 1 : Nat) : Int) - (i : Int)) = ((s.len + 1 - i : Nat) : Int) := by rw [wrapi (by omega) (by omega)]; omega
 have hcl : c.toList.length = s.cap * 1 := by simpa using hcs
 have htk : ∀ k, k ≤ s.len → vs.take (k * 1) = c.toList.take (k * 1) := fun k hk => by rw [← hvs, List.take_take, Nat.min_eq_left (by omega)]
 have hdr : vs.drop (i * 1) = (c.toList.drop (i * 1)).take ((s.len - i) * 1) := by rw [← hvs, List.drop_take, show s.len * 1 - i * 1 = (s.len - i) * 1 by omega]
 have hdp : ∀ u ∈ vs.drop (i * 1), Plain u := fun u hu => hvp u (List.mem_of_mem_drop hu)
 have hdl : (vs.drop (i * 1)).length = (s.len - i) * 1 := by rw [List.length_drop, hvl']; omega
 have hcut : ∀ (bb o l m : Nat), l < m → cutA (some (Addr.mk bb o none)) 1 l m = some ⟨bb, o + l * 1, none⟩ := fun bb o l m hlm => cut_some (by omega)
 simp only [e1, e2, e3, Int.toNat_natCast, Nat.sub_zero, cut0']
 refine ⟨fun hg => ?_, fun hg => ?_⟩
 · have hgt : s.cap < s.len + 1 := by have := of_decide_eq_true hg; omega
   have hsrc : Src 1 w ⟨some ⟨b, 0, none⟩, i, s.cap⟩ (vs.take (i * 1)) := by
     have := hblk.srcAt (sz := 1) (o := 0) (n := i) (cap := s.cap) (by omega)
     rw [List.drop_zero] at this
     rwa [htk i (by omega)]
   obtain ⟨nc, zs, rest, g1, g2, g3, g4, g5⟩ := run_append_zeros (P := Tryz.prog) (ats := #[Ty.Sl_Sl_uint8, Ty.int]) (oT := Ty.Sl_Sl_uint8) (xT := Ty.int) (k := .i64) (s := ⟨some ⟨b, 0, none⟩, i, s.cap⟩) (n := s.len + 1 - i) rfl rfl h1 (by kernel_rfl) h2 h3 h4 h5 h6 (by rw [h7]; exact h8) hsrc (by show s.cap < i + _; omega) (by rw [h7]; show (2 * (i + _) + 1000) * _ ≤ _; omega)
   have ei : i + (s.len + 1 - i) = s.len + 1 := by omega
   simp only [ei] at g1 g4 g5
   obtain ⟨C, hC⟩ : ∃ C, C = (vs.take (i * 1) ++ zs ++ rest).toArray := ⟨_, rfl⟩
   rw [← hC] at g5
   obtain ⟨w4, hw4⟩ : ∃ w4, w4 = w.drew.alloc (.cells C Ty.Sl_uint8) := ⟨_, rfl⟩
   rw [← hw4] at g5
   have hB4 : Blk w4 w.heap.size C Ty.Sl_uint8 := by rw [hw4]; exact Blk.new w.drew _ _
   have hx4 : Ext w w4 := by rw [hw4]; exact Chg.alloc (Chg.drew (.refl _ _)) _
   have htl : (vs.take (i * 1)).length = i * 1 := by rw [List.length_take, hvl']; omega
   have hCs : C.size = nc * 1 := by rw [hC]; simp [htl, g3, g4]; omega
   have hCl : C.toList.length = nc * 1 := by simpa using hCs
   have hcp1 := run_copy_rows (P := Tryz.prog) (dT := Ty.Sl_Sl_uint8) (sT := Ty.Sl_Sl_uint8) (ty := Ty.int) (A := ⟨w.heap.size, 0 + i * 1, none⟩) (dl := s.len + 1 - i) (dc := nc - i) (n := 1) h1 hd0 h6 (x := v) (by rw [hvl]; exact Nat.min_eq_left (by omega)) (xs := xs) (by have := hv.ext hx4; have e : (⟨v.a, 1, v.cap⟩ : Sl) = v := (by rw [← hvl]); rw [e]; exact this) (by rw [Nat.zero_add]; exact hB4.storeOk _ _ (by omega) hxp)
   obtain ⟨w6, hw6⟩ : ∃ w6, w6 = setCells w4 ⟨w.heap.size, 0 + i * 1, none⟩ 0 xs := ⟨_, rfl⟩
   rw [← hw6] at hcp1
   have hB6 : Blk w6 w.heap.size (spl C (i * 1) xs) Ty.Sl_uint8 := by rw [hw6, Nat.zero_add]; exact hB4.set0 xs
   have hx6 : Ext w w6 := by rw [hw6]; exact Ext.of_new hx4 (Chg.setsB (.refl _ _) xs 0) (fun k hk => by subst hk; exact Nat.le_refl _)
   have hd6 : Ext w6 w6.drew := Chg.drew (.refl _ _)
   have hx7 := Ext.trans hx6 hd6
   have hcp2 := run_copy_rows (P := Tryz.prog) (w := w6.drew) (dT := Ty.Sl_Sl_uint8) (sT := Ty.Sl_Sl_uint8) (ty := Ty.int) (A := ⟨w.heap.size, 0 + (i + 1) * 1, none⟩) (dl := s.len + 1 - (i + 1)) (dc := nc - (i + 1)) (n := s.len - i) h1 hd0 h6 (x := ⟨some ⟨b, 0 + i * 1, none⟩, s.len - i, s.cap - i⟩) (Nat.min_eq_left (by show s.len - i ≤ _; omega)) (xs := vs.drop (i * 1))
     (by have := (hblk.ext hx7).srcAt (sz := 1) (o := i * 1) (n := s.len - i) (cap := s.cap - i) (by omega); rw [hdr, Nat.zero_add]; exact this) (by rw [Nat.zero_add]; exact Blk.storeOk (Blk.drew hB6) _ _ (by rw [spl_size]; omega) hdp)
   have ecut1 : cutA (some (Addr.mk w.heap.size 0 none)) 1 i nc = some ⟨w.heap.size, 0 + i * 1, none⟩ := hcut _ _ _ _ (by omega)
   have ecut2 : cutA (some (Addr.mk w.heap.size 0 none)) 1 (i + 1) nc = some ⟨w.heap.size, 0 + (i + 1) * 1, none⟩ := hcut _ _ _ _ (by omega)
   have ecut3 : cutA s.a 1 i s.cap = some ⟨b, 0 + i * 1, none⟩ := by rw [hb]; exact hcut _ _ _ _ (by omega)
   have hg5 : Sem.run Tryz.prog (Builtin.append_ #[Ty.Sl_Sl_uint8, Ty.int] Ty.Sl_Sl_uint8 #[.slice s.a i s.cap, .int .i64 ((s.len + 1 - i : Nat) : Int)]) w = .ok (.slice (some ⟨w.heap.size, 0, none⟩) (s.len + 1) nc) w4 := by rw [hb]; exact g5
   refine ⟨⟨by omega, by omega⟩, ⟨some ⟨w.heap.size, 0, none⟩, s.len + 1, nc⟩, w4, hg5, ⟨by omega, by show (i : Int) ≤ ((s.len + 1 : Nat) : Int); omega⟩, _, w6, by rw [ecut1]; exact hcp1, nx ⟨⟨by omega, by show ((i + 1 : Nat) : Int) ≤ ((s.len + 1 : Nat) : Int); omega⟩, ⟨by omega, by omega⟩, _, _, by rw [ecut2, ecut3]; exact hcp2, ⟨some ⟨w.heap.size, 0, none⟩, s.len + 1, nc⟩, rfl, ?_, rfl, ?_, ?_⟩⟩
   · refine OwnS.mk' ((Blk.drew hB6).set0 (o := 0 + (i + 1) * 1) _) (by simp [htl, hxl, hdl]; omega) (by omega) (by omega) (by rw [spl_size, spl_size, hCs]) ?_
     rw [toList_spl _ _ _ (by rw [spl_size]; omega), toList_spl _ _ _ (by omega)]
     have t1 : C.toList.take (i * 1) = vs.take (i * 1) := by rw [hC, List.toList_toArray, List.append_assoc]; exact List.take_left' htl
     have t2 : (C.toList.take (i * 1) ++ xs ++ C.toList.drop (i * 1 + xs.length)).take (0 + (i + 1) * 1) = vs.take (i * 1) ++ xs := by
       rw [t1, List.take_append_of_le_length (by simp [htl, hxl]; omega), List.take_of_length_le (by simp [htl, hxl]; omega)]
     rw [t2, List.take_append_of_le_length (by simp [htl, hxl, hdl]; omega), List.take_of_length_le (by simp [htl, hxl, hdl]; omega)]
   · exact Chg.of_ext (Ext.of_new hx7 (Chg.setsB (.refl _ _) _ 0) (fun k hk => by subst hk; exact Nat.le_refl _))
   · rintro k ⟨A, hA, hk⟩
     cases hA
     exact .inr (Nat.le_of_eq hk)
 · have hle : s.len + 1 ≤ s.cap := by have := of_decide_eq_false hg; omega
   have ecut1 : cutA s.a 1 (i + 1) s.cap = some ⟨b, 0 + (i + 1) * 1, none⟩ := by rw [hb]; exact hcut _ _ _ _ (by omega)
   have ecut2 : cutA s.a 1 i s.cap = some ⟨b, 0 + i * 1, none⟩ := by rw [hb]; exact hcut _ _ _ _ (by omega)
   have hov : Sem.run Tryz.prog (callFunc F.slices_overlaps_Sl_byte #[.slice v.a v.len v.cap, .slice (some ⟨b, 0 + (i + 1) * 1, none⟩) (s.len + 1 - (i + 1)) (s.cap - (i + 1))]) w = .ok (.value (.bool false)) w := by
     rw [hva, run_callFunc_extern (e := Extern.SlicesOverlaps.overlaps #[Ty.Sl_Sl_uint8, Ty.Sl_Sl_uint8] #[Ty.bool]) Tryz.func160 (by kernel_rfl) (by kernel_rfl) (by kernel_rfl) (by kernel_rfl)]
     have := Lib.run_overlaps_apart (P := Tryz.prog) w Ty.Sl_Sl_uint8 Ty.bool Ty.Sl_uint8 h1 1 (fun w => by have := run_sizeOf' (w := w) hd0; rwa [h6] at this) ⟨vb, 0, none⟩ ⟨b, 0 + (i + 1) * 1, none⟩ v.len v.cap (s.len + 1 - (i + 1)) (s.cap - (i + 1)) (fun e => hbv e.symm) vT Ty.Sl_uint8 vc.size c.size
       (by have := hvb; unfold Blk at this; simp [World.shape?, this]) (by have := hblk; unfold Blk at this; simp [World.shape?, this]) (by omega) (hvb.frozen _ rfl) (hvb.frozen _ rfl)
     rw [this]; rfl
   have hcp1 := run_copy_rows (P := Tryz.prog) (w := w.drew) (dT := Ty.Sl_Sl_uint8) (sT := Ty.Sl_Sl_uint8) (ty := Ty.int) (A := ⟨b, 0 + (i + 1) * 1, none⟩) (dl := s.len + 1 - (i + 1)) (dc := s.cap - (i + 1)) (n := s.len - i) h1 hd0 h6 (x := ⟨some ⟨b, 0 + i * 1, none⟩, s.len + 1 - i, s.cap - i⟩) ((Nat.min_eq_right (by show _ ≤ s.len + 1 - i; omega)).trans (by omega)) (xs := vs.drop (i * 1))
     (by have := (Blk.drew hblk).srcAt (sz := 1) (o := i * 1) (n := s.len - i) (cap := s.cap - i) (by omega); rw [hdr, Nat.zero_add]; exact this) (by rw [Nat.zero_add]; exact Blk.storeOk (Blk.drew hblk) _ _ (by omega) hdp)
   obtain ⟨w3, hw3⟩ : ∃ w3, w3 = setCells w.drew ⟨b, 0 + (i + 1) * 1, none⟩ 0 (vs.drop (i * 1)) := ⟨_, rfl⟩
   rw [← hw3] at hcp1
   have hB3 : Blk w3 b (spl c ((i + 1) * 1) (vs.drop (i * 1))) Ty.Sl_uint8 := by rw [hw3, Nat.zero_add]; exact (Blk.drew hblk).set0 _
   have hc3 : Chg (ownB s) w w3 := by
     rw [hw3]
     exact Chg.mono (W := fun q => q = b) (Chg.setsB (Chg.drew (.refl _ _)) _ 0) (fun k _ hk => ⟨_, hb, hk.symm⟩)
   have hv3 : Src 1 w3 v xs := hv.chg hc3 (fun k hk hk2 => by obtain ⟨A, hA, rfl⟩ := hk; rw [hva] at hA; cases hA; exact hne hk2)
   have hcp2 := run_copy_rows (P := Tryz.prog) (w := w3) (dT := Ty.Sl_Sl_uint8) (sT := Ty.Sl_Sl_uint8) (ty := Ty.int) (A := ⟨b, 0 + i * 1, none⟩) (dl := s.len + 1 - i) (dc := s.cap - i) (n := 1) h1 hd0 h6 (x := v) (by rw [hvl]; exact Nat.min_eq_left (by omega)) (xs := xs) (by have e : (⟨v.a, 1, v.cap⟩ : Sl) = v := (by rw [← hvl]); rw [e]; exact hv3) (by rw [Nat.zero_add]; exact hB3.storeOk _ _ (by rw [spl_size]; omega) hxp)
   refine ⟨⟨by omega, by omega⟩, ⟨by omega, by omega⟩, false, w, by rw [ecut1]; exact hov, fun _ => nx ⟨⟨by omega, by omega⟩, ⟨by omega, by omega⟩, _, w3, by rw [ecut1, ecut2]; exact hcp1, ⟨by omega, by omega⟩, _, _, by rw [ecut2]; exact hcp2, ⟨s.a, s.len + 1, s.cap⟩, rfl, ?_, rfl, ?_, fun k hk => .inl hk⟩, fun h => by simp at h⟩
   · have hso : OwnS 1 Ty.Sl_uint8 (setCells w3 ⟨b, 0 + i * 1, none⟩ 0 xs) ⟨some ⟨b, 0, none⟩, s.len + 1, s.cap⟩ (vs.take (i * 1) ++ xs ++ vs.drop (i * 1)) := by
       have htl : (vs.take (i * 1)).length = i * 1 := by rw [List.length_take, hvl']; omega
       refine OwnS.mk' (hB3.set0 (o := 0 + i * 1) _) (by simp [htl, hxl, hdl]; omega) (by omega) (by omega) (by rw [spl_size, spl_size, hcs]) ?_
       rw [toList_spl _ _ _ (by rw [spl_size]; omega), toList_spl _ _ _ (by omega)]
       have t1 : (c.toList.take ((i + 1) * 1) ++ vs.drop (i * 1) ++ c.toList.drop ((i + 1) * 1 + (vs.drop (i * 1)).length)).take (0 + i * 1) = vs.take (i * 1) := by
         rw [Nat.zero_add, List.take_append_of_le_length (by simp [hdl]; omega), List.take_append_of_le_length (by simp; omega), List.take_take, htk i (by omega), Nat.min_eq_left (by omega)]
       have t2 : (c.toList.take ((i + 1) * 1) ++ vs.drop (i * 1) ++ c.toList.drop ((i + 1) * 1 + (vs.drop (i * 1)).length)).drop (0 + i * 1 + xs.length) = vs.drop (i * 1) ++ c.toList.drop ((i + 1) * 1 + (vs.drop (i * 1)).length) := by
         have hl : (c.toList.take ((i + 1) * 1)).length = 0 + i * 1 + xs.length := by simp; omega
         rw [List.append_assoc, ← hl, List.drop_left]
       rw [t1, t2, ← List.append_assoc, List.take_append_of_le_length (by simp [htl, hxl, hdl]; omega), List.take_of_length_le (by simp [htl, hxl, hdl]; omega)]
     rw [← hb] at hso
     exact hso
   · exact hc3.trans (Chg.mono (W := fun q => q = b) (Chg.setsB (.refl _ _) _ 0) (fun k _ hk => ⟨_, hb, hk.symm⟩))
theorem int_Clone {w : World} {s : Sl} {ds : List Nat} (h : Src 1 w s (intsV ds)) (hl : ds.length ≤ 1000000) :
   Ret Tryz.prog F.slices_Clone_Sl_int_int #[.slice s.a s.len s.cap] w (fun v w' => ∃ s' : Sl, v = .slice s'.a s'.len s'.cap ∧ OwnS 1 Ty.int w' s' (intsV ds) ∧ Ext w w' ∧ Frs w s') := by
 have hsl : s.len = ds.length := by have := h.len; rw [intsV_length] at this; omega
 refine W.slices_Clone_Sl_int_int_ok s w _ ?_
 delta W.slices_Clone_Sl_int_int Br nA
 refine ⟨fun ha => ?_, fun _ => ?_⟩
 · have ha : s.a = none := by simpa using ha
   rw [h.nil ha]
   exact ⟨⟨none, 0, 0⟩, rfl, OwnS.none _ _ _, .refl _ _, fun k hk => (ownB_none k hk).elim⟩
 · obtain ⟨s', w', h1, h2, h3, h4, h5, _⟩ := appInt.clone (oT := Ty.Sl_int) h (intsV_plain ds) (by omega)
   exact nx ⟨s', w', h1, s', rfl, h2, h4, h5⟩
theorem leafIx_eq {ks : List Key} {k : Key} {a : Nat} (ha : a ≤ ks.length) (h1 : ∀ (j : Nat) (h : j < ks.length), j < a → ltK ks[j] k) (h2 : ∀ (j : Nat) (h : j < ks.length), a ≤ j → ¬ ltK ks[j] k) : leafIx ks k = a := by
 unfold leafIx
 rcases Nat.lt_or_ge a ks.length with h | h
 · exact (List.findIdx_eq h).2 ⟨decide_eq_true (h2 a h (Nat.le_refl _)), fun j hj => decide_eq_false fun h3 => h3 (h1 j (by omega) hj)⟩
 · have : a = ks.length := by omega
   subst this
   refine List.findIdx_eq_length_of_false fun x hx => ?_
   obtain ⟨j, hj, rfl⟩ := List.getElem_of_mem hx
   exact decide_eq_false fun h3 => h3 (h1 j hj hj)
def hasK (ks : List Key) (k : Key) : Bool := decide (ks[leafIx ks k]? = some k)
theorem tx_Search {B C : Nat → Prop} {s t : Sl} {ks : List Key} {key : Key} {w : World} (hs : TxR B w s ks) (ht : Src 1 w t (u8s key)) (hr : ks.Pairwise ltK) (hn : ks.length ≤ 100000) :
   Ret Tryz.prog F.slices_BinarySearchFunc_Sl_Sl_byte_Sl_byte_Sl_byte #[.slice s.a s.len s.cap, .slice t.a t.len t.cap, .func (.func F.bytes_Compare) #[] #[]] w (fun v w' => v = .tuple #[.int .i64 ((leafIx ks key : Nat) : Int), .bool (hasK ks key)] ∧ w = w') := by
 refine W.slices_BinarySearchFunc_Sl_Sl_byte_Sl_byte_Sl_byte_ok s t ⟨F.bytes_Compare, #[], #[]⟩ w _ ?_
 (delta W.slices_BinarySearchFunc_Sl_Sl_byte_Sl_byte_Sl_byte Br wI r1 bd; dsimp only)
 have hl := TxR.len hs
 have hcall : Callable Tryz.prog F.bytes_Compare := ⟨_, (Option.some_get (show (Tryz.prog.funcs[F.bytes_Compare]?).isSome = true by kernel_rfl)).symm, by kernel_rfl, by kernel_rfl⟩
 have hlt := fun {i j : Nat} (hi : i < j) (hj : j < ks.length) => List.pairwise_iff_getElem.1 hr i j (by omega) hj hi
 refine ⟨fun lo hi w' => ∃ a b : Nat, lo = a ∧ hi = b ∧ a ≤ b ∧ b ≤ ks.length ∧ w = w' ∧ (∀ (j : Nat) (h : j < ks.length), j < a → ltK ks[j] key) ∧ (∀ (j : Nat) (h : j < ks.length), b ≤ j → ¬ ltK ks[j] key), fun lo hi _ => (hi - lo).toNat,
   ⟨0, ks.length, rfl, by rw [hl], Nat.zero_le _, Nat.le_refl _, rfl, fun j _ h => by omega, fun j h h2 => by omega⟩, ?_⟩
 rintro _ _ _ ⟨a, b, rfl, rfl, hab, hb, rfl, h1, h2⟩
 have hm := mid_wrap (a := a) (b := b) (by omega)
 refine ⟨fun h => ?_, fun h => ?_⟩
 · have hlt0 : (a : Int) < (b : Int) := of_decide_eq_true h
   rw [hm]
   obtain ⟨m, hmd⟩ : ∃ m, m = (a + b) / 2 := ⟨_, rfl⟩
   rw [← hmd]
   have hm1 : a ≤ m := by omega
   have hm2 : m < b := by omega
   obtain ⟨A, t2, hA, hbd, hrd, ht2, _⟩ := TxR.at hs (i := m) (by omega)
   refine ⟨by decide, A, hA, hbd, t2, hrd, hcall, (bytes_Compare ht2.1 ht).use ?_⟩
   rintro _ _ ⟨rfl, rfl⟩
   have hw : IntKind.wrap .i64 ((m : Int) + 1) = ((m + 1 : Nat) : Int) := by rw [wrapi (by omega) (by omega)]; rfl
   refine ⟨_, rfl, fun hc => ?_, fun hc => ?_⟩
   · have hc : ltK ks[m] key := of_decide_eq_true hc
     rw [hw]
     have hms : ((b : Int) - ((m + 1 : Nat) : Int)).toNat < ((b : Int) - (a : Int)).toNat := by omega
     refine ⟨⟨m + 1, b, rfl, rfl, by omega, hb, rfl, fun j hj hja => ?_, h2⟩, hms⟩
     rcases Nat.lt_or_ge j m with h3 | h3
     · exact ltK_trans (hlt h3 (by omega)) hc
     · have : j = m := by omega
       subst this; exact hc
   · have hc : ¬ ltK ks[m] key := of_decide_eq_false hc
     have hms : ((m : Int) - (a : Int)).toNat < ((b : Int) - (a : Int)).toNat := by omega
     refine ⟨⟨a, m, rfl, rfl, hm1, by omega, rfl, h1, fun j hj hja => ?_⟩, hms⟩
     rcases Nat.lt_or_ge m j with h3 | h3
     · exact fun h4 => hc (ltK_trans (hlt h3 hj) h4)
     · have : j = m := by omega
       subst this; exact hc
 · have hge : ¬ (a : Int) < (b : Int) := of_decide_eq_false h
   have hba : b = a := by omega
   subst hba
   have hp : leafIx ks key = b := leafIx_eq hb h1 h2
   refine Jn1 (fun c w' => w = w' ∧ c = hasK ks key) (fun q hq => ⟨fun h => ?_, fun h => ?_⟩) ?_
   · have hlt0 : (b : Int) < ((s.len : Nat) : Int) := of_decide_eq_true h
     have hlt1 : b < ks.length := by omega
     obtain ⟨A, t2, hA, hbd, hrd, ht2, _⟩ := TxR.at hs hlt1
     refine ⟨A, hA, hbd, t2, hrd, hcall, (bytes_Compare ht2.1 ht).use ?_⟩
     rintro _ _ ⟨rfl, rfl⟩
     refine ⟨_, rfl, hq _ _ ⟨rfl, ?_⟩⟩
     unfold hasK
     rw [hp, Bool.eq_iff_iff, decide_eq_true_eq, beq_iff_eq, List.getElem?_eq_getElem hlt1, cmpK_iff]
     exact ⟨fun h => by rw [h], fun h => Option.some.inj h⟩
   · have hge : ¬ (b : Int) < ((s.len : Nat) : Int) := of_decide_eq_false h
     refine hq _ _ ⟨rfl, ?_⟩
     unfold hasK
     rw [hp, List.getElem?_eq_none (by omega)]
     simp
   · rintro _ _ ⟨rfl, rfl⟩
     exact ⟨by rw [hp], rfl⟩
theorem node_find {B : Nat → Prop} {w : World} {n : Nd} {K V D t : Sl} {key : Key} (h : NdAt B w n K V D) (ht : Src 1 w t (u8s key)) (hr : n.keys.Pairwise ltK) (hn : n.keys.length ≤ 100000) :
   Ret Tryz.prog F.node_find #[ndV n K V D, .slice t.a t.len t.cap] w (fun v w' => v = .tuple #[.int .i64 ((leafIx n.keys key : Nat) : Int), .bool (hasK n.keys key)] ∧ Ext w w') := by
 refine W.node_find_ok n.leaf K V D t w _ ?_
 (delta W.node_find r1 nA c5; dsimp only)
 refine nxVar (vs := [.bool n.leaf, .slice K.a K.len K.cap, .slice V.a V.len V.cap, .slice D.a D.len D.cap]) rfl fun w1 hv hx1 _ => ?_
 obtain ⟨c0, c1, c2, c3⟩ := ndCells hv
 refine ⟨K, c1, (tx_Search (B := B) (C := B) (h.keys.ext hx1) (ht.ext hx1) hr hn).use ?_⟩
 rintro _ _ ⟨rfl, rfl⟩
 exact ⟨_, _, rfl, rfl, hx1⟩
theorem node_Find {B : Nat → Prop} {w : World} {n : Nd} {K V D t : Sl} {key : Key} (h : NdAt B w n K V D) (ht : Src 1 w t (u8s key)) (hr : n.keys.Pairwise ltK) (hn : n.keys.length ≤ 100000) :
   Ret Tryz.prog F.node_Find #[ndV n K V D, .slice t.a t.len t.cap] w (fun v w' => v = .tuple #[.int .i64 ((leafIx n.keys key : Nat) : Int), .bool (hasK n.keys key)] ∧ Ext w w') := by
 refine W.node_Find_ok n.leaf K V D t w _ ?_
 (delta W.node_Find r3 nA r1 c5; dsimp only)
 refine nxVar (vs := [.bool n.leaf, .slice K.a K.len K.cap, .slice V.a V.len V.cap, .slice D.a D.len D.cap]) rfl fun w1 hv hx1 _ => ?_
 obtain ⟨c0, c1, c2, c3⟩ := ndCells hv
 refine ⟨_, c0, K, c1, V, c2, D, c3, (node_find (h.ext hx1) (ht.ext hx1) hr hn).use ?_⟩
 rintro _ _ ⟨rfl, hx2⟩
 exact ⟨_, _, rfl, rfl, hx1.trans hx2⟩
theorem kidIx_leafIx {ks : List Key} (hr : ks.Pairwise ltK) (k : Key) : kidIx ks k = if hasK ks k then leafIx ks k + 1 else leafIx ks k := by
 have hle := leafIx_le ks k
 have key : ∀ a, a ≤ ks.length → (∀ (j : Nat) (h : j < ks.length), j < a → ¬ ltK k ks[j]) → (∀ h : a < ks.length, ltK k ks[a]) → kidIx ks k = a := by
   intro a ha h1 h2
   unfold kidIx
   rcases Nat.lt_or_ge a ks.length with h | h
   · exact (List.findIdx_eq h).2 ⟨decide_eq_true (h2 h), fun j hj => decide_eq_false (h1 j (by omega) hj)⟩
   · have : a = ks.length := by omega
     subst this
     refine List.findIdx_eq_length_of_false fun x hx => ?_
     obtain ⟨j, hj, rfl⟩ := List.getElem_of_mem hx
     exact decide_eq_false (h1 j hj hj)
 split
 · rename_i hh
   have hh : ks[leafIx ks k]? = some k := of_decide_eq_true hh
   obtain ⟨hlt, he⟩ := List.getElem?_eq_some_iff.1 hh
   refine key _ hlt (fun j hj h => ?_) fun h => ?_
   · rcases Nat.lt_or_ge j (leafIx ks k) with h3 | h3
     · exact ltK_asym (leafIx_lt h3 hj)
     · have : j = leafIx ks k := by omega
       subst this
       rw [he]; exact ltK_irr _
   · have := List.pairwise_iff_getElem.1 hr _ _ hlt h (Nat.lt_succ_self _)
     rwa [he] at this
 · rename_i hh
   have hh : ¬ ks[leafIx ks k]? = some k := fun h => hh (decide_eq_true h)
   refine key _ hle (fun j hj h => ltK_asym (leafIx_lt h hj)) fun h => ?_
   rcases leK_iff.1 (leafIx_ge hr (Nat.le_refl _) h) with h3 | h3
   · exact h3
   · exact absurd ((List.getElem?_eq_getElem h).trans (congrArg some h3.symm)) hh
theorem node_Kid {B : Nat → Prop} {w : World} {n : Nd} {K V D t : Sl} {key : Key} (h : NdAt B w n K V D) (ht : Src 1 w t (u8s key)) (hr : n.keys.Pairwise ltK) (hn : n.keys.length ≤ 100000) :
   Ret Tryz.prog F.node_Kid #[ndV n K V D, .slice t.a t.len t.cap] w (fun v w' => v = .int .i64 ((kidIx n.keys key : Nat) : Int) ∧ Ext w w') := by
 refine W.node_Kid_ok n.leaf K V D t w _ ?_
 (delta W.node_Kid r3 nA r1 c5 Br wI; dsimp only)
 refine nxVar (vs := [.bool n.leaf, .slice K.a K.len K.cap, .slice V.a V.len V.cap, .slice D.a D.len D.cap]) rfl fun w1 hv hx1 _ => ?_
 obtain ⟨c0, c1, c2, c3⟩ := ndCells hv
 have hle := leafIx_le n.keys key
 refine ⟨_, c0, K, c1, V, c2, D, c3, (node_find (h.ext hx1) (ht.ext hx1) hr hn).use ?_⟩
 rintro _ w2 ⟨rfl, hx2⟩
 rw [kidIx_leafIx hr]
 refine ⟨_, _, rfl, Jn1 (fun c w' => w2 = w' ∧ c = ((if hasK n.keys key then leafIx n.keys key + 1 else leafIx n.keys key : Nat) : Int)) (fun q hq => ⟨fun h => hq _ _ ⟨rfl, ?_⟩, fun h => hq _ _ ⟨rfl, ?_⟩⟩) ?_⟩
 · rw [if_pos h, wrapi (by omega) (by omega)]; rfl
 · rw [if_neg (by simp [h])]
 · rintro _ _ ⟨rfl, rfl⟩
   exact ⟨rfl, hx1.trans hx2⟩
end Go.Proofs.YtplieiecebljmaaGreat
namespace Go.Proofs.YtplieiecebljmaaGreat
open Go Gx
structure NdOwn (lo : Nat) (w : World) (ob : Nat) (n : Nd) (K V D : Sl) (BK BV BD : Nat → Prop) : Prop where
 v : Var w ob [.bool n.leaf, .slice K.a K.len K.cap, .slice V.a V.len V.cap, .slice D.a D.len D.cap] Ty.api_Node
 keys : TxO BK w K n.keys
 vals : TxO BV w V n.vals
 kids : InO BD w D n.kids
 bk : ∀ q, BK q → lo ≤ q ∧ q < w.heap.size ∧ q ≠ ob ∧ ¬ BV q ∧ ¬ BD q
 bv : ∀ q, BV q → lo ≤ q ∧ q < w.heap.size ∧ q ≠ ob ∧ ¬ BD q
 bd : ∀ q, BD q → lo ≤ q ∧ q < w.heap.size ∧ q ≠ ob
 olo : lo ≤ ob
structure NdMem (lo : Nat) (w : World) (n : Nd) (K V D : Sl) (BK BV BD : Nat → Prop) : Prop where
 keys : TxO BK w K n.keys
 vals : TxO BV w V n.vals
 kids : InO BD w D n.kids
 bk : ∀ q, BK q → lo ≤ q ∧ q < w.heap.size ∧ ¬ BV q ∧ ¬ BD q
 bv : ∀ q, BV q → lo ≤ q ∧ q < w.heap.size ∧ ¬ BD q
 bd : ∀ q, BD q → lo ≤ q ∧ q < w.heap.size
section
variable {lo : Nat} {w w' : World} {ob : Nat} {n : Nd} {K V D : Sl} {BK BV BD : Nat → Prop}
theorem NdOwn.mem (h : NdOwn lo w ob n K V D BK BV BD) : NdMem lo w n K V D BK BV BD := ⟨h.keys, h.vals, h.kids, fun q hq => ⟨(h.bk q hq).1, (h.bk q hq).2.1, (h.bk q hq).2.2.2⟩, fun q hq => ⟨(h.bv q hq).1, (h.bv q hq).2.1, (h.bv q hq).2.2.2⟩, fun q hq => ⟨(h.bd q hq).1, (h.bd q hq).2.1⟩⟩
theorem NdMem.chg {W : Nat → Prop} (h : NdMem lo w n K V D BK BV BD) (hc : Chg W w w') (hW : ∀ q, lo ≤ q → q < w.heap.size → BK q ∨ BV q ∨ BD q → ¬ W q) : NdMem lo w' n K V D BK BV BD := by
 have hs := hc.size
 refine ⟨TxO.chg h.keys hc fun q hq => hW q (h.bk q hq).1 (h.bk q hq).2.1 (.inl hq), TxO.chg h.vals hc fun q hq => hW q (h.bv q hq).1 (h.bv q hq).2.1 (.inr (.inl hq)), InO.chg h.kids hc fun q hq => hW q (h.bd q hq).1 (h.bd q hq).2 (.inr (.inr hq)), fun q hq => ?_, fun q hq => ?_, fun q hq => ?_⟩
 · have := h.bk q hq; exact ⟨this.1, by omega, this.2.2⟩
 · have := h.bv q hq; exact ⟨this.1, by omega, this.2.2⟩
 · have := h.bd q hq; exact ⟨this.1, by omega⟩
theorem NdMem.ext (h : NdMem lo w n K V D BK BV BD) (hc : Ext w w') : NdMem lo w' n K V D BK BV BD := h.chg hc fun _ _ _ _ h => h
theorem NdOwn.ext (h : NdOwn lo w ob n K V D BK BV BD) (hx : Ext w w') : NdOwn lo w' ob n K V D BK BV BD :=
 ⟨h.v.ext hx, TxO.ext h.keys hx, TxO.ext h.vals hx, InO.ext h.kids hx, fun q hq => ⟨(h.bk q hq).1, Nat.lt_of_lt_of_le (h.bk q hq).2.1 hx.size, (h.bk q hq).2.2⟩, fun q hq => ⟨(h.bv q hq).1, Nat.lt_of_lt_of_le (h.bv q hq).2.1 hx.size, (h.bv q hq).2.2⟩, fun q hq => ⟨(h.bd q hq).1, Nat.lt_of_lt_of_le (h.bd q hq).2.1 hx.size, (h.bd q hq).2.2⟩, h.olo⟩
theorem NdMem.at (h : NdMem lo w n K V D BK BV BD) : NdAt (fun q => lo ≤ q) w n K V D :=
 ⟨TxR.weak (TxO.txR h.keys) fun q _ hq => (h.bk q hq).1, TxR.weak (TxO.txR h.vals) fun q _ hq => (h.bv q hq).1, InR.weak (InO.inR h.kids) fun q _ hq => (h.bd q hq).1⟩
theorem NdMem.low {lo' : Nat} (h : NdMem lo w n K V D BK BV BD) (hl : lo' ≤ lo) : NdMem lo' w n K V D BK BV BD :=
 ⟨h.keys, h.vals, h.kids, fun q hq => ⟨Nat.le_trans hl (h.bk q hq).1, (h.bk q hq).2⟩, fun q hq => ⟨Nat.le_trans hl (h.bv q hq).1, (h.bv q hq).2⟩, fun q hq => ⟨Nat.le_trans hl (h.bd q hq).1, (h.bd q hq).2⟩⟩
end
theorem ownK {lo : Nat} {w : World} {ob : Nat} {n : Nd} {K V D t : Sl} {l : Key} {BK BV BD : Nat → Prop} (h : NdOwn lo w ob n K V D BK BV BD) (ht : Src 1 w t (u8s l)) (hl : l.length ≤ 100000) (hn : n.keys.length ≤ 100000) {R : World → Prop}
   (hR : ∀ (w' : World) (K' : Sl) (BK' : Nat → Prop), NdOwn lo w' ob { n with keys := n.keys ++ [l] } K' V D BK' BV BD → Chg (fun q => q = ob ∨ BK q) w w' → (∀ q, BK' q → BK q ∨ w.heap.size ≤ q) → R w') :
   Nx w.drew fun w21 => ∃ W22 : Nat → Prop, ¬ W22 (Addr.add ⟨ob, 0, none⟩ 1).block ∧ ∃ s23 : Sl, w21.cell? (Addr.add ⟨ob, 0, none⟩ 1) = some (.slice s23.a s23.len s23.cap) ∧
     Calls Tryz.prog F.slices_Clone_Sl_byte_byte #[.slice t.a t.len t.cap] w21 fun e25 w24 => ∃ s26 : Sl, e25 = .returned (.slice s26.a s26.len s26.cap) ∧ Chg W22 w21 w24 ∧
     Nx (w24.alloc (.cells #[.slice s26.a s26.len s26.cap] Ty.Sl_uint8)) fun w27 => Chg W22 w24 w27 ∧ ∃ s28 : Sl, ∃ w29 : World, Sem.run Tryz.prog (Builtin.append_ #[Ty.Sl_Sl_uint8, Ty.Sl_Sl_uint8] Ty.Sl_Sl_uint8 #[.slice s23.a s23.len s23.cap, .slice (some ⟨w24.heap.size, 0, none⟩) 1 1]) w27 = .ok (.slice s28.a s28.len s28.cap) w29 ∧
     (∃ u : Value, w29.cell? (Addr.add ⟨ob, 0, none⟩ 1) = some u) ∧ w29.frozen? (Addr.add ⟨ob, 0, none⟩ 1) = false ∧ Nx (w29.setCell (Addr.add ⟨ob, 0, none⟩ 1) (.slice s28.a s28.len s28.cap)) fun w30 => R w30 := by
 have hob := h.olo
 have hol := h.v.lt
 have hxd := ext_drew w
 obtain ⟨c0, c1, c2, c3⟩ := ndCells (h.v.ext hxd)
 refine nx ⟨fun _ => False, id, K, c1, (cloneTx (B := fun q => w.heap.size ≤ q) (ht.ext hxd) (by omega) (fun q hq => hq)).use ?_⟩
 rintro _ w24 ⟨t', rfl, ht', hx, hf⟩
 have hX := hxd.trans hx
 have hz : w.drew.heap.size = w.heap.size := rfl
 have hsz := hX.size
 have hK := TxO.ext h.keys hX
 have hV := TxO.ext h.vals hX
 have hD := InO.ext h.kids hX
 refine ⟨t', rfl, hx, pushSeg (B := Grow BK w.drew w24) (h.v.ext hX) (o := 1) (by simp) (TxO.weak hK fun k _ h => .inl h) ?_ (Tx.weak ht' fun k hk h => .inr ⟨h, hk⟩) ?_ hn fun w' S' g1 g2 g3 => ?_⟩
 · rintro (h1 | h1)
   · exact (h.bk ob h1).2.2.1 rfl
   · omega
 · intro k hk1 hk2'
   obtain ⟨ts, _, _, h3, _⟩ := h.keys
   have := (h3 k hk2').2
   have := (ht'.2.2 k hk1).1
   omega
 have hfr : ∀ q, Grow (Grow BK w.drew w24) w24 w' q → BK q ∨ (w.heap.size ≤ q ∧ q < w'.heap.size) := by
   rintro q ((h1 | h1) | h1)
   · exact .inl h1
   · exact .inr ⟨h1.1, Nat.lt_of_lt_of_le h1.2 g3.size⟩
   · exact .inr ⟨Nat.le_trans hsz h1.1, h1.2⟩
 have hg := g3.size
 have hKo : ∀ q, ownB K q → BK q := fun q hq => by
   obtain ⟨ts, _, _, h3, _⟩ := h.keys
   exact (h3 q hq).1
 refine hR w' S' (fun q => BK q ∨ (w.heap.size ≤ q ∧ q < w'.heap.size)) ⟨by simpa using g1, TxO.weak g2 fun k _ hk => hfr k hk, TxO.chg hV g3 ?_, InO.chg hD g3 ?_, ?_, fun q hq => ?_, fun q hq => ?_, h.olo⟩ ?_ ?_
 · rintro q hq (h1 | h1)
   · exact (h.bv q hq).2.2.1 h1
   · exact (h.bk q (hKo q h1)).2.2.2.1 hq
 · rintro q hq (h1 | h1)
   · exact (h.bd q hq).2.2 h1
   · exact (h.bk q (hKo q h1)).2.2.2.2 hq
 · rintro q (h1 | h1)
   · have := h.bk q h1; exact ⟨this.1, by omega, this.2.2⟩
   · exact ⟨by omega, h1.2, by omega, fun h2 => by have := h.bv q h2; omega, fun h2 => by have := h.bd q h2; omega⟩
 · have := h.bv q hq; exact ⟨this.1, by omega, this.2.2⟩
 · have := h.bd q hq; exact ⟨this.1, by omega, this.2.2⟩
 · refine (Chg.of_ext hX).trans (g3.mono fun k _ hk => ?_)
   rcases hk with hk | hk
   · exact .inl hk
   · exact .inr (hKo k hk)
 · rintro q (h1 | h1)
   · exact .inl h1
   · exact .inr h1.1
theorem ownV {lo : Nat} {w : World} {ob : Nat} {n : Nd} {K V D t : Sl} {l : Key} {BK BV BD : Nat → Prop} (h : NdOwn lo w ob n K V D BK BV BD) (ht : Src 1 w t (u8s l)) (hl : l.length ≤ 100000) (hn : n.vals.length ≤ 100000) {R : World → Prop}
   (hR : ∀ (w' : World) (V' : Sl) (BV' : Nat → Prop), NdOwn lo w' ob { n with vals := n.vals ++ [l] } K V' D BK BV' BD → Chg (fun q => q = ob ∨ BV q) w w' → (∀ q, BV' q → BV q ∨ w.heap.size ≤ q) → R w') :
   Nx w.drew fun w21 => ∃ W22 : Nat → Prop, ¬ W22 (Addr.add ⟨ob, 0, none⟩ 2).block ∧ ∃ s23 : Sl, w21.cell? (Addr.add ⟨ob, 0, none⟩ 2) = some (.slice s23.a s23.len s23.cap) ∧
     Calls Tryz.prog F.slices_Clone_Sl_byte_byte #[.slice t.a t.len t.cap] w21 fun e25 w24 => ∃ s26 : Sl, e25 = .returned (.slice s26.a s26.len s26.cap) ∧ Chg W22 w21 w24 ∧
     Nx (w24.alloc (.cells #[.slice s26.a s26.len s26.cap] Ty.Sl_uint8)) fun w27 => Chg W22 w24 w27 ∧ ∃ s28 : Sl, ∃ w29 : World, Sem.run Tryz.prog (Builtin.append_ #[Ty.Sl_Sl_uint8, Ty.Sl_Sl_uint8] Ty.Sl_Sl_uint8 #[.slice s23.a s23.len s23.cap, .slice (some ⟨w24.heap.size, 0, none⟩) 1 1]) w27 = .ok (.slice s28.a s28.len s28.cap) w29 ∧
     (∃ u : Value, w29.cell? (Addr.add ⟨ob, 0, none⟩ 2) = some u) ∧ w29.frozen? (Addr.add ⟨ob, 0, none⟩ 2) = false ∧ Nx (w29.setCell (Addr.add ⟨ob, 0, none⟩ 2) (.slice s28.a s28.len s28.cap)) fun w30 => R w30 := by
 have hob := h.olo
 have hol := h.v.lt
 have hxd := ext_drew w
 obtain ⟨c0, c1, c2, c3⟩ := ndCells (h.v.ext hxd)
 refine nx ⟨fun _ => False, id, V, c2, (cloneTx (B := fun q => w.heap.size ≤ q) (ht.ext hxd) (by omega) (fun q hq => hq)).use ?_⟩
 rintro _ w24 ⟨t', rfl, ht', hx, hf⟩
 have hX := hxd.trans hx
 have hz : w.drew.heap.size = w.heap.size := rfl
 have hsz := hX.size
 have hK := TxO.ext h.keys hX
 have hV := TxO.ext h.vals hX
 have hD := InO.ext h.kids hX
 refine ⟨t', rfl, hx, pushSeg (B := Grow BV w.drew w24) (h.v.ext hX) (o := 2) (by simp) (TxO.weak hV fun k _ h => .inl h) ?_ (Tx.weak ht' fun k hk h => .inr ⟨h, hk⟩) ?_ hn fun w' S' g1 g2 g3 => ?_⟩
 · rintro (h1 | h1)
   · exact (h.bv ob h1).2.2.1 rfl
   · omega
 · intro k hk1 hk2'
   obtain ⟨ts, _, _, h3, _⟩ := h.vals
   have := (h3 k hk2').2
   have := (ht'.2.2 k hk1).1
   omega
 have hfr : ∀ q, Grow (Grow BV w.drew w24) w24 w' q → BV q ∨ (w.heap.size ≤ q ∧ q < w'.heap.size) := by
   rintro q ((h1 | h1) | h1)
   · exact .inl h1
   · exact .inr ⟨h1.1, Nat.lt_of_lt_of_le h1.2 g3.size⟩
   · exact .inr ⟨Nat.le_trans hsz h1.1, h1.2⟩
 have hg := g3.size
 have hKo : ∀ q, ownB V q → BV q := fun q hq => by
   obtain ⟨ts, _, _, h3, _⟩ := h.vals
   exact (h3 q hq).1
 refine hR w' S' (fun q => BV q ∨ (w.heap.size ≤ q ∧ q < w'.heap.size)) ⟨by simpa using g1, TxO.chg hK g3 ?_, TxO.weak g2 fun k _ hk => hfr k hk, InO.chg hD g3 ?_, fun q hq => ?_, ?_, fun q hq => ?_, h.olo⟩ ?_ ?_
 · rintro q hq (h1 | h1)
   · exact (h.bk q hq).2.2.1 h1
   · exact (h.bk q hq).2.2.2.1 (hKo q h1)
 · rintro q hq (h1 | h1)
   · exact (h.bd q hq).2.2 h1
   · exact (h.bv q (hKo q h1)).2.2.2 hq
 · have := h.bk q hq
   refine ⟨this.1, by omega, this.2.2.1, ?_, this.2.2.2.2⟩
   rintro (h1 | h1)
   · exact this.2.2.2.1 h1
   · omega
 · rintro q (h1 | h1)
   · have := h.bv q h1; exact ⟨this.1, by omega, this.2.2⟩
   · exact ⟨by omega, h1.2, by omega, fun h2 => by have := h.bd q h2; omega⟩
 · have := h.bd q hq; exact ⟨this.1, by omega, this.2.2⟩
 · refine (Chg.of_ext hX).trans (g3.mono fun k _ hk => ?_)
   rcases hk with hk | hk
   · exact .inl hk
   · exact .inr (hKo k hk)
 · rintro q (h1 | h1)
   · exact .inl h1
   · exact .inr h1.1
theorem node_own {B : Nat → Prop} {w0 : World} {n : Nd} {K V D : Sl} (h : NdAt B w0 n K V D) (hkc : n.keys.length ≤ 100000) (hvc : n.vals.length ≤ 100000) (hdc : n.kids.length ≤ 100000) (hkl : ∀ k ∈ n.keys, k.length ≤ 100000) (hvl : ∀ v ∈ n.vals, v.length ≤ 100000) :
   Ret Tryz.prog F.node_own #[ndV n K V D] w0 (fun v w' => ∃ (K V D : Sl) (BK BV BD : Nat → Prop), v = ndV n K V D ∧ NdMem w0.heap.size w' n K V D BK BV BD ∧ Ext w0 w') := by
 refine W.node_own_ok n.leaf K V D w0 _ ?_
 (delta W.node_own z1 nA r3 r1 c12 c10 T24 Br T9 bd st wI T10 T7 T23; dsimp only)
 have hn0 : NdAt (fun q => q < w0.heap.size) w0 n K V D := h.weak fun q hq _ => hq
 have lk := TxR.len h.keys
 have lv := TxR.len h.vals
 refine nxVar (vs := [.bool n.leaf, .slice K.a K.len K.cap, .slice V.a V.len V.cap, .slice D.a D.len D.cap]) rfl fun w1 hp1 hx1 hs1 => ?_
 refine nxVar (vs := [.bool false, .slice none 0 0, .slice none 0 0, .slice none 0 0]) rfl fun w2 hr2 hx2 hs2 => nx ?_
 have hxd := ext_drew w2
 have hz : w2.drew.heap.size = w2.heap.size := rfl
 have hp3 := (hp1.ext hx2).ext hxd
 have hr3 := hr2.ext hxd
 have hX3 := hx1.trans (hx2.trans hxd)
 obtain ⟨e0, e1, e2, e3⟩ := ndCells hp3
 have hn3 := hn0.ext hX3
 obtain ⟨lo, hlo⟩ : ∃ lo, lo = w2.heap.size := ⟨_, rfl⟩
 refine ⟨fun _ => False, id, _, e0, id, D, e3, ⟨?_, ?_⟩⟩
 · refine (int_Clone hn3.kids.1 (by omega)).use ?_
   rintro _ w7 ⟨D', rfl, hD', hx7, hf7⟩
   have hz7 := hx7.size
   refine ⟨D', rfl, hx7, #[.bool n.leaf, .slice none 0 0, .slice none 0 0, .slice D'.a D'.len D'.cap], (fun w => by kernel_rfl), ?_⟩
   refine nxVar (vs := [.bool false, .slice none 0 0, .slice none 0 0, .slice none 0 0]) rfl fun w12 hv12 hx12 hs12 => ?_
   refine ⟨hx12, hv12.storeOk rfl ?_, rfl, nxPut hv12 (us := [.bool n.leaf, .slice none 0 0, .slice none 0 0, .slice D'.a D'.len D'.cap]) rfl rfl fun w13 hv13 hc13 hs13 => ?_⟩
   · intro v hv
     simp only [List.mem_cons, List.not_mem_nil, or_false] at hv
     rcases hv with rfl | rfl | rfl | rfl <;> trivial
   obtain ⟨ob, hob⟩ : ∃ ob, ob = w7.heap.size := ⟨_, rfl⟩
   rw [← hob] at hv13 hc13 ⊢
   obtain ⟨BD, hBD⟩ : ∃ BD : Nat → Prop, BD = fun q => w2.heap.size ≤ q ∧ q < w7.heap.size := ⟨_, rfl⟩
   have hD7 : InO BD w7 D' n.kids := by subst hBD; exact ⟨hD', fun k hk => ⟨⟨hf7 k hk, hD'.lt k hk⟩, hD'.lt k hk⟩⟩
   have hC13 : Chg (fun q => lo ≤ q) w2.drew w13 := (Chg.of_ext (hx7.trans hx12)).trans (hc13.mono fun k _ hk => by omega)
   have stA : NdOwn lo w13 ob ⟨n.leaf, [], [], n.kids⟩ nil3 nil3 D' (fun _ => False) (fun _ => False) BD := ⟨hv13, TxO.none _ _, TxO.none _ _, InO.chg (InO.ext hD7 hx12) hc13 (fun q hq e => by subst hBD; have hq := hq.2; omega), fun q h => h.elim, fun q h => h.elim, fun q hq => (by subst hBD; obtain ⟨h1, h2⟩ := hq; exact ⟨by omega, by omega, by omega⟩), by omega⟩
   clear hBD
   obtain ⟨c0, c1, c2, c3⟩ := ndCells (hp3.chg hC13 (by omega))
   have hn13 : NdAt (fun q => q < w0.heap.size) w13 n K V D := hn3.chg hC13 fun q hq h => by omega
   have hr13 := hr3.chg hC13 (by omega)
   refine ⟨K, c1, fun i w' => ∃ (j : Nat) (K' : Sl) (BK : Nat → Prop), i = j ∧ j ≤ n.keys.length ∧ NdOwn lo w' ob ⟨n.leaf, n.keys.take j, [], n.kids⟩ K' nil3 D' BK (fun _ => False) BD ∧ Chg (fun q => lo ≤ q) w13 w', fun i _ => ((n.keys.length : Int) - i).toNat, ⟨0, nil3, _, rfl, Nat.zero_le _, stA, Chg.refl _ _⟩, ?_⟩
   rintro _ w14 ⟨j, K', BK, rfl, hj, st14, hc14⟩
   have hn14 : NdAt (fun q => q < w0.heap.size) w14 n K V D := hn13.chg hc14 fun q hq h => by omega
   refine ⟨fun hlt => ?_, fun hge => ?_⟩
   · have hlt : j < n.keys.length := by have := of_decide_eq_true hlt; omega
     obtain ⟨A, t, hA, hb, hc, ht, _⟩ := TxR.at hn14.keys hlt
     refine ⟨A, hA, hb, t, hc, ownK st14 ht.1 (hkl _ (List.getElem_mem hlt)) (by show (n.keys.take j).length ≤ _; rw [List.length_take]; omega) fun w' K2 BK2 st hc2' _ => ?_⟩
     have hc2 : Chg (fun q => lo ≤ q) w14 w' := hc2'.mono fun q _ hq => by
       rcases hq with hq | hq
       · have := st14.olo; omega
       · exact (st14.bk q hq).1
     rw [wrapi (n := (j : Int) + 1) (by omega) (by omega)]
     refine ⟨⟨j + 1, K2, BK2, by omega, by omega, ?_, hc14.trans hc2⟩, ?_⟩
     · rw [take_succ _ hlt]; exact st
     · show ((n.keys.length : Int) - ((j : Int) + 1)).toNat < ((n.keys.length : Int) - (j : Int)).toNat
       omega
   have hge : j = n.keys.length := by have := of_decide_eq_false hge; omega
   subst hge
   rw [List.take_length] at st14
   obtain ⟨c0, c1, c2, c3⟩ := ndCells ((hp3.chg hC13 (by omega)).chg hc14 (by omega))
   refine ⟨V, c2, fun i w' => ∃ (j : Nat) (V' : Sl) (BV : Nat → Prop), i = j ∧ j ≤ n.vals.length ∧ NdOwn lo w' ob ⟨n.leaf, n.keys, n.vals.take j, n.kids⟩ K' V' D' BK BV BD ∧ Chg (fun q => lo ≤ q) w13 w', fun i _ => ((n.vals.length : Int) - i).toNat, ⟨0, nil3, _, rfl, Nat.zero_le _, st14, hc14⟩, ?_⟩
   rintro _ w15 ⟨j, V', BV, rfl, hj, st15, hc15⟩
   have hn15 : NdAt (fun q => q < w0.heap.size) w15 n K V D := hn13.chg hc15 fun q hq h => by omega
   refine ⟨fun hlt => ?_, fun hge => ?_⟩
   · have hlt : j < n.vals.length := by have := of_decide_eq_true hlt; omega
     obtain ⟨A, t, hA, hb, hc, ht, _⟩ := TxR.at hn15.vals hlt
     refine ⟨A, hA, hb, t, hc, ownV st15 ht.1 (hvl _ (List.getElem_mem hlt)) (by show (n.vals.take j).length ≤ _; rw [List.length_take]; omega) fun w' V2 BV2 st hc2' _ => ?_⟩
     have hc2 : Chg (fun q => lo ≤ q) w15 w' := hc2'.mono fun q _ hq => by
       rcases hq with hq | hq
       · have := st15.olo; omega
       · exact (st15.bv q hq).1
     rw [wrapi (n := (j : Int) + 1) (by omega) (by omega)]
     refine ⟨⟨j + 1, V2, BV2, by omega, by omega, ?_, hc15.trans hc2⟩, ?_⟩
     · rw [take_succ _ hlt]; exact st
     · show ((n.vals.length : Int) - ((j : Int) + 1)).toNat < ((n.vals.length : Int) - (j : Int)).toNat
       omega
   have hge : j = n.vals.length := by have := of_decide_eq_false hge; omega
   subst hge
   rw [List.take_length] at st15
   obtain ⟨d0, d1, d2, d3⟩ := ndCells st15.v
   refine ⟨_, d0, K', d1, V', d2, D', d3, retN n.leaf K' V' D' (hr13.chg hc15 (by omega)) rfl (Q := fun b K V D w2 => (fun v w' => ∃ (K V D : Sl) (BK BV BD : Nat → Prop), v = ndV n K V D ∧ NdMem w0.heap.size w' n K V D BK BV BD ∧ Ext w0 w') (.agg #[.bool b, .slice K.a K.len K.cap, .slice V.a V.len V.cap, .slice D.a D.len D.cap]) w2) fun w16 hc16 => ⟨K', V', D', BK, BV, BD, rfl, ?_, ?_⟩⟩
   · exact (NdMem.chg st15.mem hc16 fun q hq _ _ h => by omega).low (by omega)
   · exact Ext.of_chg (Ext.of_new hX3 (hC13.trans hc15) fun k hk => by omega) hc16 (by omega)

 · refine nxVar (vs := [.bool false, .slice none 0 0, .slice none 0 0, .slice none 0 0]) rfl fun w12 hv12 hx12 hs12 => ⟨hx12, ?_⟩
   refine (int_Clone (hn3.kids.ext hx12).1 (by omega)).use ?_
   rintro _ w7 ⟨D', rfl, hD', hx7, hf7⟩
   have hz7 := hx7.size
   have hv7 := hv12.ext hx7
   refine ⟨D', rfl, hx7, #[.bool n.leaf, .slice none 0 0, .slice none 0 0, .slice D'.a D'.len D'.cap], (fun w => by kernel_rfl), ?_⟩
   refine ⟨hv7.storeOk rfl ?_, rfl, nxPut hv7 (us := [.bool n.leaf, .slice none 0 0, .slice none 0 0, .slice D'.a D'.len D'.cap]) rfl rfl fun w13 hv13 hc13 hs13 => ?_⟩
   · intro v hv
     simp only [List.mem_cons, List.not_mem_nil, or_false] at hv
     rcases hv with rfl | rfl | rfl | rfl <;> trivial
   obtain ⟨ob, hob⟩ : ∃ ob, ob = w2.drew.heap.size := ⟨_, rfl⟩
   rw [← hob] at hv13 hc13 ⊢
   obtain ⟨BD, hBD⟩ : ∃ BD : Nat → Prop, BD = fun q => w12.heap.size ≤ q ∧ q < w7.heap.size := ⟨_, rfl⟩
   have hD7 : InO BD w7 D' n.kids := by subst hBD; exact ⟨hD', fun k hk => ⟨⟨hf7 k hk, hD'.lt k hk⟩, hD'.lt k hk⟩⟩
   have hC13 : Chg (fun q => lo ≤ q) w2.drew w13 := (Chg.of_ext (hx12.trans hx7)).trans (hc13.mono fun k _ hk => by omega)
   have stA : NdOwn lo w13 ob ⟨n.leaf, [], [], n.kids⟩ nil3 nil3 D' (fun _ => False) (fun _ => False) BD := ⟨hv13, TxO.none _ _, TxO.none _ _, InO.chg hD7 hc13 (fun q hq e => by subst hBD; have hq := hq.1; omega), fun q h => h.elim, fun q h => h.elim, fun q hq => (by subst hBD; obtain ⟨h1, h2⟩ := hq; exact ⟨by omega, by omega, by omega⟩), by omega⟩
   clear hBD
   obtain ⟨c0, c1, c2, c3⟩ := ndCells (hp3.chg hC13 (by omega))
   have hn13 : NdAt (fun q => q < w0.heap.size) w13 n K V D := hn3.chg hC13 fun q hq h => by omega
   have hr13 := hr3.chg hC13 (by omega)
   refine ⟨K, c1, fun i w' => ∃ (j : Nat) (K' : Sl) (BK : Nat → Prop), i = j ∧ j ≤ n.keys.length ∧ NdOwn lo w' ob ⟨n.leaf, n.keys.take j, [], n.kids⟩ K' nil3 D' BK (fun _ => False) BD ∧ Chg (fun q => lo ≤ q) w13 w', fun i _ => ((n.keys.length : Int) - i).toNat, ⟨0, nil3, _, rfl, Nat.zero_le _, stA, Chg.refl _ _⟩, ?_⟩
   rintro _ w14 ⟨j, K', BK, rfl, hj, st14, hc14⟩
   have hn14 : NdAt (fun q => q < w0.heap.size) w14 n K V D := hn13.chg hc14 fun q hq h => by omega
   refine ⟨fun hlt => ?_, fun hge => ?_⟩
   · have hlt : j < n.keys.length := by have := of_decide_eq_true hlt; omega
     obtain ⟨A, t, hA, hb, hc, ht, _⟩ := TxR.at hn14.keys hlt
     refine ⟨A, hA, hb, t, hc, ownK st14 ht.1 (hkl _ (List.getElem_mem hlt)) (by show (n.keys.take j).length ≤ _; rw [List.length_take]; omega) fun w' K2 BK2 st hc2' _ => ?_⟩
     have hc2 : Chg (fun q => lo ≤ q) w14 w' := hc2'.mono fun q _ hq => by
       rcases hq with hq | hq
       · have := st14.olo; omega
       · exact (st14.bk q hq).1
     rw [wrapi (n := (j : Int) + 1) (by omega) (by omega)]
     refine ⟨⟨j + 1, K2, BK2, by omega, by omega, ?_, hc14.trans hc2⟩, ?_⟩
     · rw [take_succ _ hlt]; exact st
     · show ((n.keys.length : Int) - ((j : Int) + 1)).toNat < ((n.keys.length : Int) - (j : Int)).toNat
       omega
   have hge : j = n.keys.length := by have := of_decide_eq_false hge; omega
   subst hge
   rw [List.take_length] at st14
   obtain ⟨c0, c1, c2, c3⟩ := ndCells ((hp3.chg hC13 (by omega)).chg hc14 (by omega))
   refine ⟨V, c2, fun i w' => ∃ (j : Nat) (V' : Sl) (BV : Nat → Prop), i = j ∧ j ≤ n.vals.length ∧ NdOwn lo w' ob ⟨n.leaf, n.keys, n.vals.take j, n.kids⟩ K' V' D' BK BV BD ∧ Chg (fun q => lo ≤ q) w13 w', fun i _ => ((n.vals.length : Int) - i).toNat, ⟨0, nil3, _, rfl, Nat.zero_le _, st14, hc14⟩, ?_⟩
   rintro _ w15 ⟨j, V', BV, rfl, hj, st15, hc15⟩
   have hn15 : NdAt (fun q => q < w0.heap.size) w15 n K V D := hn13.chg hc15 fun q hq h => by omega
   refine ⟨fun hlt => ?_, fun hge => ?_⟩
   · have hlt : j < n.vals.length := by have := of_decide_eq_true hlt; omega
     obtain ⟨A, t, hA, hb, hc, ht, _⟩ := TxR.at hn15.vals hlt
     refine ⟨A, hA, hb, t, hc, ownV st15 ht.1 (hvl _ (List.getElem_mem hlt)) (by show (n.vals.take j).length ≤ _; rw [List.length_take]; omega) fun w' V2 BV2 st hc2' _ => ?_⟩
     have hc2 : Chg (fun q => lo ≤ q) w15 w' := hc2'.mono fun q _ hq => by
       rcases hq with hq | hq
       · have := st15.olo; omega
       · exact (st15.bv q hq).1
     rw [wrapi (n := (j : Int) + 1) (by omega) (by omega)]
     refine ⟨⟨j + 1, V2, BV2, by omega, by omega, ?_, hc15.trans hc2⟩, ?_⟩
     · rw [take_succ _ hlt]; exact st
     · show ((n.vals.length : Int) - ((j : Int) + 1)).toNat < ((n.vals.length : Int) - (j : Int)).toNat
       omega
   have hge : j = n.vals.length := by have := of_decide_eq_false hge; omega
   subst hge
   rw [List.take_length] at st15
   obtain ⟨d0, d1, d2, d3⟩ := ndCells st15.v
   refine ⟨_, d0, K', d1, V', d2, D', d3, retN n.leaf K' V' D' (hr13.chg hc15 (by omega)) rfl (Q := fun b K V D w2 => (fun v w' => ∃ (K V D : Sl) (BK BV BD : Nat → Prop), v = ndV n K V D ∧ NdMem w0.heap.size w' n K V D BK BV BD ∧ Ext w0 w') (.agg #[.bool b, .slice K.a K.len K.cap, .slice V.a V.len V.cap, .slice D.a D.len D.cap]) w2) fun w16 hc16 => ⟨K', V', D', BK, BV, BD, rfl, ?_, ?_⟩⟩
   · exact (NdMem.chg st15.mem hc16 fun q hq _ _ h => by omega).low (by omega)
   · exact Ext.of_chg (Ext.of_new hX3 (hC13.trans hc15) fun k hk => by omega) hc16 (by omega)
end Go.Proofs.YtplieiecebljmaaGreat
namespace Go.Proofs.YtplieiecebljmaaGreat
open Go Gx
theorem TxO.mk' {B : Nat → Prop} {w : World} {s : Sl} {ts : List Sl} {ls : List Key} (hl : ts.length = ls.length) (ho : OwnS 1 Ty.Sl_uint8 w s (ts.map slv)) (hi : In B w s) (hz : ∀ p ∈ ts.zip ls, Tx B w p.1 p.2 ∧ ∀ k, ownB p.1 k → ¬ ownB s k) : TxO B w s ls := by
 refine ⟨ts, hl, ho, hi, fun i h1 h2 => ?_⟩
 have := hz (ts[i], ls[i]) (by
   rw [List.mem_iff_getElem]
   exact ⟨i, by rw [List.length_zip]; omega, by rw [List.getElem_zip]⟩)
 exact this
theorem TxO.out {B : Nat → Prop} {w : World} {s : Sl} {ls : List Key} (h : TxO B w s ls) : ∃ ts : List Sl, ts.length = ls.length ∧ OwnS 1 Ty.Sl_uint8 w s (ts.map slv) ∧ In B w s ∧ ∀ p ∈ ts.zip ls, Tx B w p.1 p.2 ∧ ∀ k, ownB p.1 k → ¬ ownB s k := by
 obtain ⟨ts, h1, h2, h3, h4⟩ := h
 refine ⟨ts, h1, h2, h3, fun p hp => ?_⟩
 obtain ⟨i, hi, rfl⟩ := List.mem_iff_getElem.1 hp
 rw [List.length_zip] at hi
 rw [List.getElem_zip]
 exact h4 i (by omega) (by omega)
theorem zip_take' {α β : Type} (a : List α) (b : List β) (i : Nat) : (a.take i).zip (b.take i) = (a.zip b).take i := by
 rw [List.zip_eq_zipWith, List.zip_eq_zipWith, List.take_zipWith]
theorem zip_drop' {α β : Type} (a : List α) (b : List β) (i : Nat) : (a.drop i).zip (b.drop i) = (a.zip b).drop i := by
 rw [List.zip_eq_zipWith, List.zip_eq_zipWith, List.drop_zipWith]
theorem insTx {B : Nat → Prop} {w : World} {s t : Sl} {ls : List Key} {l : Key} {i : Nat} (ho : TxO B w s ls) (ht : Tx B w t l) (hd : ∀ k, ownB t k → ¬ ownB s k) (hn : ls.length ≤ 100000) (hi : i ≤ ls.length) :
   Ret Tryz.prog F.slices_Insert_Sl_Sl_byte_Sl_byte #[.slice s.a s.len s.cap, .int .i64 (i : Int), .slice (some ⟨w.heap.size, 0, none⟩) 1 1] (w.alloc (.cells #[.slice t.a t.len t.cap] Ty.Sl_uint8))
     (fun u w' => ∃ s' : Sl, u = .slice s'.a s'.len s'.cap ∧ TxO (Grow B w w') w' s' (ls.take i ++ [l] ++ ls.drop i) ∧ Chg (ownB s) w w') := by
 obtain ⟨ts, h1, h2, h3, h4⟩ := TxO.out ho
 have hsl : s.len = ls.length := by have := h2.1; rw [List.length_map] at this; omega
 have hx := ext_alloc w (.cells #[.slice t.a t.len t.cap] Ty.Sl_uint8)
 have hblk := Blk.new w #[.slice t.a t.len t.cap] Ty.Sl_uint8
 refine (tx_Insert (v := ⟨some ⟨w.heap.size, 0, none⟩, 1, 1⟩) (xs := [slv t]) (i := i) (h2.ext hx) (Src.new (T := Ty.Sl_uint8) w [slv t] 1 rfl) rfl rfl hblk (fun h => by have := (h3 _ h).2; omega) (fun v hv => by rw [List.mem_singleton.1 hv]; trivial) (slv_plain ts) (by omega) (by omega)).mono ?_
 rintro _ w' ⟨s', rfl, g1, g2, g3, g4⟩
 rw [Nat.mul_one] at g1
 have hc : Chg (ownB s) w w' := (Chg.of_ext hx).trans g3
 have hsz := hc.size
 have hsa : (w.alloc (.cells #[.slice t.a t.len t.cap] Ty.Sl_uint8)).heap.size = w.heap.size + 1 := alloc_size _ _
 have hs' : ∀ k, ownB s' k → ownB s k ∨ w.heap.size ≤ k := fun k hk => (g4 k hk).imp id fun h => by omega
 have hnew : ∀ (x : Sl), In B w x → (∀ k, ownB x k → ¬ ownB s k) → ∀ k, ownB x k → ¬ ownB s' k := fun x hx hx2 k hk hk2 => by
   rcases hs' k hk2 with h | h
   · exact hx2 k hk h
   · have := (hx k hk).2; omega
 have hG : ∀ (x : Sl) (y : Key), Tx B w x y → (∀ k, ownB x k → ¬ ownB s k) → Tx (Grow B w w') w' x y ∧ ∀ k, ownB x k → ¬ ownB s' k := fun x y hxy hx2 => ⟨Tx.weak (Tx.chg2 hxy hc hx2) fun k _ h => .inl h, hnew x hxy.2.2 hx2⟩
 refine ⟨s', rfl, TxO.mk' (ts := ts.take i ++ [t] ++ ts.drop i) ?_ ?_ ?_ ?_, hc⟩
 · simp only [List.length_append, List.length_take, List.length_drop, List.length_singleton]; omega
 · simpa [List.map_take, List.map_drop] using g1
 · intro k hk
   refine ⟨?_, g1.lt k hk⟩
   rcases hs' k hk with h | h
   · exact .inl (h3 k h).1
   · exact .inr ⟨h, g1.lt k hk⟩
 · intro p hp
   rw [List.zip_append (by simp only [List.length_append, List.length_take, List.length_singleton]; omega), List.zip_append (by simp only [List.length_take]; omega), zip_take', zip_drop'] at hp
   rcases List.mem_append.1 hp with hp | hp
   · rcases List.mem_append.1 hp with hp | hp
     · obtain ⟨a, b⟩ := h4 p (List.mem_of_mem_take hp)
       exact hG _ _ a b
     · simp only [List.zip_cons_cons, List.zip_nil_left, List.mem_singleton] at hp
       subst hp
       exact hG _ _ ht hd
   · obtain ⟨a, b⟩ := h4 p (List.mem_of_mem_drop hp)
     exact hG _ _ a b
theorem setTx {B : Nat → Prop} {w : World} {s t : Sl} {ls : List Key} {l : Key} {i : Nat} (ho : TxO B w s ls) (ht : Tx B w t l) (hd : ∀ k, ownB t k → ¬ ownB s k) (hi : i < ls.length) :
   ∃ A : Addr, s.a = some A ∧ ((0 : Int) ≤ (i : Int) ∧ (i : Int) < ((s.len : Nat) : Int)) ∧ (∃ u : Value, w.cell? (A.add (Int.toNat (i : Int) * 1)) = some u) ∧ w.frozen? (A.add (Int.toNat (i : Int) * 1)) = false ∧
     TxO B (w.setCell (A.add (Int.toNat (i : Int) * 1)) (slv t)) s (ls.set i l) ∧ Chg (ownB s) w (w.setCell (A.add (Int.toNat (i : Int) * 1)) (slv t)) := by
 obtain ⟨ts, h1, h2, h3, h4⟩ := ho
 obtain ⟨A, hA, hb, hc, hf, hob, hset⟩ := h2.at (i := i) (v := slv (ts[i]'(by omega))) (by simp [h1, hi])
 have hch : Chg (ownB s) w (w.setCell (A.add (Int.toNat (i : Int) * 1)) (slv t)) := Chg.set (.refl _ _) (fun _ => hob) _
 refine ⟨A, hA, hb, ⟨_, hc⟩, hf, ⟨ts.set i t, by simp [h1], ?_, In.chg h3 hch, fun j h5 h6 => ?_⟩, hch⟩
 · have := hset (slv t)
   rwa [← List.map_set] at this
 · rw [List.length_set] at h5 h6
   rw [List.getElem_set, List.getElem_set]
   by_cases e : i = j
   · rw [if_pos e, if_pos e]
     exact ⟨Tx.chg2 ht hch hd, hd⟩
   · rw [if_neg e, if_neg e]
     obtain ⟨a, b⟩ := h4 j h5 h6
     exact ⟨Tx.chg2 a hch b, b⟩
def putN (n : Nd) (k v : Key) : Nd :=
 if hasK n.keys k then { n with vals := n.vals.set (leafIx n.keys k) v }
 else { n with keys := n.keys.take (leafIx n.keys k) ++ [k] ++ n.keys.drop (leafIx n.keys k), vals := n.vals.take (leafIx n.keys k) ++ [v] ++ n.vals.drop (leafIx n.keys k) }
theorem LeafOk.few {n : Nd} (h : LeafOk n) : (∀ k ∈ n.keys, k.length ≤ 100000) ∧ (∀ v ∈ n.vals, v.length ≤ 100000) := ⟨fun k hk => by have := (h.ok k hk).2; omega, fun v hv => by have := h.vals v hv; omega⟩
def NdRes (n : Nd) (w : World) (v : Value) (w' : World) : Prop := ∃ K V D : Sl, v = .tuple #[ndV n K V D, .bool true] ∧ NdAt (fun q => w.heap.size ≤ q) w' n K V D ∧ Ext w w'
theorem node_Put {B : Nat → Prop} {w : World} {n : Nd} {K V D tk tv : Sl} {key val : Key} (h : NdAt B w n K V D) (hs : LeafOk n) (hn : n.keys.length ≤ 10000) (hk : Src 1 w tk (u8s key)) (hv : Src 1 w tv (u8s val)) (hko : keyOk key) (hvo : val.length ≤ 24) :
   Ret Tryz.prog F.node_Put #[ndV n K V D, .slice tk.a tk.len tk.cap, .slice tv.a tv.len tv.cap] w (NdRes (putN n key val) w) := by
 have hvl := hs.len
 have hdl : n.kids.length = 0 := by rw [hs.kids]; rfl
 have tvl := len8 hv
 have hkl : key.length ≤ 24 := hko.2
 refine W.node_Put_ok n.leaf K V D tk tv w _ ?_
 (delta W.node_Put z1 r3 nA T14 Br r1 c3 T6 T26 c11 c5 c12 bd st T3 T21; dsimp only)
 refine nxVar (vs := [.bool n.leaf, .slice K.a K.len K.cap, .slice V.a V.len V.cap, .slice D.a D.len D.cap]) rfl fun w1 hp1 hx1 hs1 => ?_
 refine nxVar (vs := [.bool false, .slice none 0 0, .slice none 0 0, .slice none 0 0]) rfl fun w2 hr2 hx2 hs2 => ?_
 have hX2 := hx1.trans hx2
 obtain ⟨c0, c1, c2, c3⟩ := ndCells (hp1.ext hx2)
 refine ⟨n.leaf, c0, Jn1 (fun b w' => b = false ∧ Ext w2 w') (fun q hq => ⟨fun hb => ?_, fun hb => ⟨_, c0, K, c1, V, c2, D, c3, (node_sound (h.ext hX2) (by omega) (by omega) (by omega)).use ?_⟩⟩) ?_⟩
 · rw [hs.leaf] at hb; cases hb
 · rintro _ w3 ⟨b, rfl, hb2, hx3⟩
   have := hb2.2 (.inl hs)
   subst this
   exact ⟨true, rfl, hq _ _ ⟨rfl, hx3⟩⟩
 rintro _ w3 ⟨rfl, hx3⟩
 have hX3 := hX2.trans hx3
 refine Jn1 (fun b w' => b = false ∧ w3 = w') (fun q hq => ⟨fun h => (by cases h), fun _ => (node_keyed (hk.ext hX3)).use ?_⟩) ?_
 · rintro _ _ ⟨rfl, rfl⟩
   exact ⟨_, rfl, hq _ _ ⟨by simp [hko], rfl⟩⟩
 rintro _ _ ⟨rfl, rfl⟩
 obtain ⟨c0, c1, c2, c3⟩ := ndCells (hp1.ext (hx2.trans hx3))
 refine ⟨fun hb => ?_, fun _ => ⟨_, c0, K, c1, V, c2, D, c3, (node_own (h.ext hX3) (by omega) (by omega) (by omega) hs.few.1 hs.few.2).use ?_⟩⟩
 · have hb : decide ((((tv.len : Nat) : Int) : Int) > 24) = true := hb
   have := of_decide_eq_true hb; omega
 rintro _ w4 ⟨K', V', D', BK, BV, BD, rfl, hm4, hx4⟩
 have hX4 := hX3.trans hx4
 have hs4 := hX4.size
 have h34 := hX3.size
 have h23 := hx3.size
 have h44 := hx4.size
 refine ⟨n.leaf, K', V', D', rfl, nxVar (vs := [.bool false, .slice none 0 0, .slice none 0 0, .slice none 0 0]) rfl fun w5 ho5 hx5 hs5 => ⟨ho5.storeOk rfl ?_, rfl, nxPut ho5 (us := [.bool n.leaf, .slice K'.a K'.len K'.cap, .slice V'.a V'.len V'.cap, .slice D'.a D'.len D'.cap]) rfl rfl fun w6 ho6 hc6 hs6 => ?_⟩⟩
 · intro v hv
   simp only [List.mem_cons, List.not_mem_nil, or_false] at hv
   rcases hv with rfl | rfl | rfl | rfl <;> trivial
 obtain ⟨ob, hob⟩ : ∃ ob, ob = w4.heap.size := ⟨_, rfl⟩
 rw [← hob] at ho6 hc6 ⊢
 obtain ⟨lo, hlo⟩ : ∃ lo, lo = w3.heap.size := ⟨_, rfl⟩
 rw [← hlo] at hm4
 have hX6 : Ext w w6 := Ext.of_chg (hX4.trans hx5) hc6 (by omega)
 have hp6 : Var w6 w.heap.size [.bool n.leaf, .slice K.a K.len K.cap, .slice V.a V.len V.cap, .slice D.a D.len D.cap] Ty.api_Node := (((hp1.ext (hx2.trans hx3)).ext hx4).ext hx5).chg hc6 (by omega)
 have hr6 : Var w6 w1.heap.size [.bool false, .slice none 0 0, .slice none 0 0, .slice none 0 0] Ty.api_Node := (((hr2.ext hx3).ext hx4).ext hx5).chg hc6 (by omega)
 have hm6 : NdMem lo w6 n K' V' D' BK BV BD := (hm4.ext hx5).chg hc6 fun q _ _ hq e => by
   subst e
   rcases hq with hq | hq | hq
   · have := (hm4.bk _ hq).2.1; omega
   · have := (hm4.bv _ hq).2.1; omega
   · have := (hm4.bd _ hq).2; omega
 obtain ⟨c0, c1, c2, c3⟩ := ndCells hp6
 have hle := leafIx_le n.keys key
 refine ⟨_, c0, K, c1, V, c2, D, c3, (node_find (h.ext hX6) (hk.ext hX6) hs.rise (by omega)).use ?_⟩
 rintro _ w7 ⟨rfl, hx7⟩
 have hX7 := hX6.trans hx7
 have hz6 := hx7.size
 refine ⟨_, _, rfl, fun hh => ?_, fun hh => ?_⟩
 · -- it is there
   have hxd := ext_drew w7
   have hxe := hx7.trans hxd
   have hlt : leafIx n.keys key < n.keys.length := by
     have := of_decide_eq_true hh
     exact (List.getElem?_eq_some_iff.1 this).1
   obtain ⟨d0, d1, d2, d3⟩ := ndCells (ho6.ext hxe)
   refine nx ⟨fun _ => False, id, V', d2, (cloneTx (B := fun q => w7.heap.size ≤ q) (hv.ext (hX7.trans hxd)) (by omega) (fun q hq => hq)).use ?_⟩
   rintro _ w8 ⟨t, rfl, ht, hx8, hf8⟩
   have hxf := hxe.trans hx8
   have hm8 := hm6.ext hxf
   have hz8 := hxf.size
   have hV8 : TxO (Grow BV w7 w8) w8 V' n.vals := TxO.weak hm8.vals fun k _ h => .inl h
   have hVo : ∀ k, ownB V' k → BV k := fun k hk => by obtain ⟨ts, _, _, h3, _⟩ := hm6.vals; exact (h3 k hk).1
   obtain ⟨A, hA, hb, hcell, hfz, hset, hch⟩ := setTx (i := leafIx n.keys key) hV8 (Tx.weak ht fun k hk h => .inr ⟨h, hk⟩) (fun k hk1 hk2 => by
     have := (ht.2.2 k hk1).1
     have := (hm6.bv k (hVo k hk2)).2.1
     omega) (by omega)
   refine ⟨t, rfl, hx8, A, hA, hb, hcell, hfz, nx ?_⟩
   obtain ⟨w9, hw9⟩ : ∃ w9, w9 = w8.setCell (A.add (Int.toNat (leafIx n.keys key : Int) * 1)) (slv t) := ⟨_, rfl⟩
   rw [← hw9] at hset hch
   have hgoal : w8.setCell (A.add (Int.toNat (leafIx n.keys key : Int) * 1)) (.slice t.a t.len t.cap) = w9 := hw9.symm
   rw [hgoal]
   have hch' : Chg (fun q => lo ≤ q ∧ q < w6.heap.size ∧ BV q) w8 w9 := hch.mono fun k _ hk => ⟨(hm6.bv k (hVo k hk)).1, (hm6.bv k (hVo k hk)).2.1, hVo k hk⟩
   have ho9 := (ho6.ext hxf).chg hch' (fun e => by
     have h1 := (hm4.bv _ e.2.2).2.1; omega)
   obtain ⟨e0, e1, e2, e3⟩ := ndCells ho9
   have hn9 : NdAt (fun q => lo ≤ q) w9 (putN n key val) K' V' D' := by
     unfold putN
     rw [if_pos hh]
     refine ⟨TxR.weak (TxR.chg (TxO.txR hm8.keys) hch' fun q hq e => (hm6.bk q hq).2.2.1 e.2.2) fun q _ hq => (hm6.bk q hq).1, TxR.weak (TxO.txR hset) fun q _ hq => ?_, InR.weak (InR.chg (InO.inR hm8.kids) hch' fun q hq e => (hm6.bv q e.2.2).2.2 hq) fun q _ hq => (hm6.bd q hq).1⟩
     rcases hq with hq | hq
     · exact (hm6.bv q hq).1
     · omega
   have hl9 : (putN n key val).leaf = n.leaf := by unfold putN; rw [if_pos hh]
   refine ⟨_, e0, K', e1, V', e2, D', e3, retN n.leaf K' V' D' ((hr6.ext hxf).chg hch' (fun e => by have := e.1; omega)) rfl (Q := fun b K V D w2 => NdRes (putN n key val) w (.tuple #[.agg #[.bool b, .slice K.a K.len K.cap, .slice V.a V.len V.cap, .slice D.a D.len D.cap], .bool true]) w2) fun w10 hc10 => ⟨K', V', D', by unfold ndV; rw [hl9], ?_, ?_⟩⟩
   · exact (hn9.chg hc10 fun q hq e => by omega).weak fun q _ hq => by omega
   · exact Ext.of_chg (Ext.of_new (hX6.trans hxf) hch' fun k hk => by omega) hc10 (by omega)
 · -- it is new
   have hxd := ext_drew w7
   have hxe := hx7.trans hxd
   have hoA : NdOwn lo w7.drew ob n K' V' D' BK BV BD := by
     have hm7 := hm6.ext hxe
     refine ⟨ho6.ext hxe, hm7.keys, hm7.vals, hm7.kids, fun q hq => ?_, fun q hq => ?_, fun q hq => ?_, by omega⟩
     · have h1 := hm7.bk q hq; have := (hm4.bk q hq).2.1; exact ⟨h1.1, h1.2.1, by omega, h1.2.2⟩
     · have h1 := hm7.bv q hq; have := (hm4.bv q hq).2.1; exact ⟨h1.1, h1.2.1, by omega, h1.2.2⟩
     · have h1 := hm7.bd q hq; have := (hm4.bd q hq).2; exact ⟨h1.1, h1.2, by omega⟩
   obtain ⟨d0, d1, d2, d3⟩ := ndCells hoA.v
   refine nx ⟨fun _ => False, id, K', d1, (cloneTx (B := fun q => w7.heap.size ≤ q) (hk.ext (hX7.trans hxd)) (by omega) (fun q hq => hq)).use ?_⟩
   rintro _ w8 ⟨t, rfl, ht, hx8, hf8⟩
   have hz8 : w7.heap.size ≤ w8.heap.size := (hxd.trans hx8).size
   have hKo : ∀ k, ownB K' k → BK k := fun k hk => by obtain ⟨ts, _, _, h3, _⟩ := hm6.keys; exact (h3 k hk).1
   have hVo : ∀ k, ownB V' k → BV k := fun k hk => by obtain ⟨ts, _, _, h3, _⟩ := hm6.vals; exact (h3 k hk).1
   have hoB := hoA.ext hx8
   refine ⟨t, rfl, hx8, nx ⟨ext_alloc _ _, (insTx (B := Grow BK w7 w8) (i := leafIx n.keys key) (TxO.weak hoB.keys fun k _ h => .inl h) (Tx.weak ht fun k hk h => .inr ⟨h, hk⟩) (fun k hk1 hk2 => by
     have := (ht.2.2 k hk1).1
     have := (hm6.bk k (hKo k hk2)).2.1
     omega) (by omega) hle).use ?_⟩⟩
   rintro _ w9 ⟨S, rfl, hS, hc9⟩
   have hz9 := hc9.size
   have hc9' : Chg (fun q => lo ≤ q ∧ BK q) w8 w9 := hc9.mono fun k _ hk => ⟨(hm6.bk k (hKo k hk)).1, hKo k hk⟩
   have ho9 := hoB.v.chg hc9' fun e => (hoB.bk _ e.2).2.2.1 rfl
   obtain ⟨s1, s2⟩ := setOk ho9 (i := 1) (by simp)
   refine ⟨S, rfl, ?_⟩
   rw [add_mk, add_mk]
   refine ⟨s1, s2, nx (nx ?_)⟩
   obtain ⟨w10, hw10⟩ : ∃ w10, w10 = (w9.setCell ⟨ob, 0 + 1, none⟩ (.slice S.a S.len S.cap)).drew := ⟨_, rfl⟩
   rw [← hw10]
   have hc10 : Chg (fun q => q = ob) w9 w10 := by rw [hw10]; exact Chg.drew (chgSet _ _ _ _)
   have hv10 : Var w10 ob [.bool n.leaf, .slice S.a S.len S.cap, .slice V'.a V'.len V'.cap, .slice D'.a D'.len D'.cap] Ty.api_Node := by rw [hw10]; exact (varSet ho9 _).drew
   have hz10 := hc10.size
   have hob4 : ob < w7.heap.size := by have := ho6.lt; omega
   have hK10 : TxO (fun q => BK q ∨ (w7.heap.size ≤ q ∧ q < w9.heap.size)) w10 S (n.keys.take (leafIx n.keys key) ++ [key] ++ n.keys.drop (leafIx n.keys key)) := by
     refine TxO.chg (TxO.weak hS fun k _ hk => ?_) hc10 fun k hk e => ?_
     · rcases hk with (hk | hk) | hk
       · exact .inl hk
       · exact .inr ⟨hk.1, by omega⟩
       · exact .inr ⟨by omega, hk.2⟩
     · subst e
       rcases hk with hk | hk
       · exact (hoB.bk _ hk).2.2.1 rfl
       · omega
   have hV10 : TxO BV w10 V' n.vals := TxO.chg (TxO.chg hoB.vals hc9' fun q hq e => (hoB.bk q e.2).2.2.2.1 hq) hc10 fun q hq e => (hoB.bv q hq).2.2.1 e
   have hD10 : InO BD w10 D' n.kids := InO.chg (InO.chg hoB.kids hc9' fun q hq e => (hoB.bk q e.2).2.2.2.2 hq) hc10 fun q hq e => (hoB.bd q hq).2.2 e
   have hX10 : Ext w w10 := Ext.of_new (Ext.of_new ((hX7.trans hxd).trans hx8) hc9' fun k hk => by omega) hc10 fun k hk => by omega
   obtain ⟨f0, f1, f2, f3⟩ := ndCells hv10
   rw [add_mk] at f2
   refine ⟨fun _ => False, id, V', f2, (cloneTx (B := fun q => w10.heap.size ≤ q) (hv.ext hX10) (by omega) (fun q hq => hq)).use ?_⟩
   rintro _ w11 ⟨t2, rfl, ht2, hx11, hf11⟩
   have hz11 := hx11.size
   refine ⟨t2, rfl, hx11, nx ⟨ext_alloc _ _, (insTx (B := Grow BV w10 w11) (i := leafIx n.keys key) (TxO.weak (TxO.ext hV10 hx11) fun k _ h => .inl h) (Tx.weak ht2 fun k hk h => .inr ⟨h, hk⟩) (fun k hk1 hk2 => by
     have := (ht2.2.2 k hk1).1
     have := (hm6.bv k (hVo k hk2)).2.1
     omega) (by omega) (by omega)).use ?_⟩⟩
   rintro _ w12 ⟨S2, rfl, hS2, hc12⟩
   have hz12 := hc12.size
   have hc12' : Chg (fun q => lo ≤ q ∧ BV q) w11 w12 := hc12.mono fun k _ hk => ⟨(hm6.bv k (hVo k hk)).1, hVo k hk⟩
   have ho12 := (hv10.ext hx11).chg hc12' fun e => (hoB.bv _ e.2).2.2.1 rfl
   obtain ⟨s1, s2⟩ := setOk ho12 (i := 2) (by simp)
   refine ⟨S2, rfl, ?_⟩
   rw [add_mk, add_mk]
   refine ⟨s1, s2, nx ?_⟩
   obtain ⟨w13, hw13⟩ : ∃ w13, w13 = w12.setCell ⟨ob, 0 + 2, none⟩ (.slice S2.a S2.len S2.cap) := ⟨_, rfl⟩
   rw [← hw13]
   have hc13 : Chg (fun q => q = ob) w12 w13 := by rw [hw13]; exact chgSet _ _ _ _
   have hv13 : Var w13 ob [.bool n.leaf, .slice S.a S.len S.cap, .slice S2.a S2.len S2.cap, .slice D'.a D'.len D'.cap] Ty.api_Node := by rw [hw13]; exact varSet ho12 _
   have hz13 := hc13.size
   obtain ⟨g0, g1, g2, g3⟩ := ndCells hv13
   rw [add_mk] at g1 g2 g3
   have hn13 : NdAt (fun q => lo ≤ q) w13 (putN n key val) S S2 D' := by
     unfold putN
     rw [if_neg (by rw [hh]; simp)]
     refine ⟨?_, ?_, ?_⟩
     · refine TxR.weak (TxO.txR (TxO.chg (TxO.chg (TxO.ext hK10 hx11) hc12' fun q hq e => ?_) hc13 fun q hq e => ?_)) fun q _ hq => ?_
       · rcases hq with hq | hq
         · exact (hoB.bk q hq).2.2.2.1 e.2
         · have := (hm6.bv q e.2).2.1; omega
       · subst e
         rcases hq with hq | hq
         · exact (hoB.bk _ hq).2.2.1 rfl
         · omega
       · rcases hq with hq | hq
         · exact (hoB.bk q hq).1
         · omega
     · refine TxR.weak (TxO.txR (TxO.chg hS2 hc13 fun q hq e => ?_)) fun q _ hq => ?_
       · subst e
         rcases hq with (hq | hq) | hq
         · exact (hoB.bv _ hq).2.2.1 rfl
         · omega
         · omega
       · rcases hq with (hq | hq) | hq
         · exact (hoB.bv q hq).1
         · omega
         · omega
     · exact InR.weak (InO.inR (InO.chg (InO.chg (InO.ext hD10 hx11) hc12' fun q hq e => (hoB.bv q e.2).2.2.2 hq) hc13 fun q hq e => (hoB.bd q hq).2.2 e)) fun q _ hq => (hoB.bd q hq).1
   have hl13 : (putN n key val).leaf = n.leaf := by unfold putN; rw [if_neg (by rw [hh]; simp)]
   have hX13 : Ext w w13 := Ext.of_new (Ext.of_new (hX10.trans hx11) hc12' fun k hk => by omega) hc13 fun k hk => by omega
   have hr13 : Var w13 w1.heap.size [.bool false, .slice none 0 0, .slice none 0 0, .slice none 0 0] Ty.api_Node := by
     have h1 := hr6.ext (hxe.trans hx8)
     have h2 := (h1.chg hc9' (fun e => by have := e.1; omega)).chg hc10 (by omega)
     exact ((h2.ext hx11).chg hc12' (fun e => by have := e.1; omega)).chg hc13 (by omega)
   rw [add_mk, add_mk]
   refine ⟨_, g0, S, g1, S2, g2, D', g3, ?_⟩
   have := retN n.leaf S S2 D' hr13 rfl (Q := fun b K V D w2 => NdRes (putN n key val) w (.tuple #[.agg #[.bool b, .slice K.a K.len K.cap, .slice V.a V.len V.cap, .slice D.a D.len D.cap], .bool true]) w2) fun w14 hc14 => ⟨S, S2, D', by unfold ndV; rw [hl13], (hn13.chg hc14 fun q hq e => by omega).weak fun q _ hq => by omega, Ext.of_chg hX13 hc14 (by omega)⟩
   simpa only [add_mk] using this
end Go.Proofs.YtplieiecebljmaaGreat
namespace Go.Proofs.YtplieiecebljmaaGreat
open Go Gx
theorem cells_sum_le {n : Nd} (hs : SoundN n) (m : Nat) : ((cellsOf n).take m).sum ≤ 100 * n.keys.length := by
 have h1 : ((cellsOf n).take m).sum ≤ (cellsOf n).sum := by
   have := sum_split (cellsOf n) m; omega
 have h2 := cellsFrom_length hs n.keys.length (Nat.le_refl _)
 rw [List.take_of_length_le (by rw [cellsOf_length hs]; exact Nat.le_refl _)] at h2
 have h3 := cells_le hs n.keys.length (Nat.le_refl _)
 omega
theorem node_half {B : Nat → Prop} {w : World} {n : Nd} {K V D : Sl} (h : NdAt B w n K V D) (hs : SoundN n) (hn : n.keys.length ≤ 10000) {most : Nat} (hm : most ≤ n.keys.length) :
   Ret Tryz.prog F.node_half #[ndV n K V D, .int .i64 ((most : Nat) : Int)] w (fun v w' => v = .int .i64 ((halfIx (cellsOf n) most : Nat) : Int) ∧ Ext w w') := by
 refine W.node_half_ok n.leaf K V D ((most : Nat) : Int) w _ ?_
 (delta W.node_half r1 nA Br r3 c12 wI; dsimp only)
 refine nxVar (vs := [.bool n.leaf, .slice K.a K.len K.cap, .slice V.a V.len V.cap, .slice D.a D.len D.cap]) rfl fun w1 hv1 hx1 _ => ?_
 obtain ⟨c0, c1, c2, c3⟩ := ndCells hv1
 have lk := TxR.len h.keys
 have hcl := cellsOf_length hs
 have hcell : ∀ (j : Nat) (hj : j < (cellsOf n).length), (cellsOf n)[j] = (cellB n j).length := fun j hj => by
   have h1 := cellB_length hs (i := j) (by omega)
   rw [List.getElem?_eq_getElem hj] at h1
   exact Option.some.inj h1
 refine ⟨K, c1, fun a i w' => ∃ j : Nat, i = j ∧ j ≤ n.keys.length ∧ a = ((((cellsOf n).take j).sum : Nat) : Int) ∧ Ext w1 w', fun _ i _ => ((n.keys.length : Int) - i).toNat, ⟨0, rfl, Nat.zero_le _, by simp, .refl _ _⟩, ?_⟩
 rintro _ _ w2 ⟨j, rfl, hj, rfl, hx2⟩
 obtain ⟨d0, d1, d2, d3⟩ := ndCells (hv1.ext hx2)
 refine ⟨fun hlt => ?_, fun hge => ?_⟩
 · have hlt : j < n.keys.length := by have := of_decide_eq_true hlt; omega
   refine ⟨_, d0, K, d1, V, d2, D, d3, (node_cell (h.ext (hx1.trans hx2)) hs hlt (by omega)).use ?_⟩
   rintro _ w3 ⟨s, rfl, ho, hx3, _⟩
   have hl := len8O ho
   have hb := cells_sum_le hs j
   have hc := cell_le hs hlt
   have e := sum_take_succ (l := cellsOf n) (i := j) (by omega)
   rw [hcell j (by omega)] at e
   refine ⟨s, rfl, ?_⟩
   rw [hl, wrapi (n := ((((cellsOf n).take j).sum : Nat) : Int) + (((cellB n j).length : Nat) : Int)) (by omega) (by omega), wrapi (n := (j : Int) + 1) (by omega) (by omega)]
   refine ⟨⟨j + 1, by omega, by omega, by omega, hx2.trans hx3⟩, ?_⟩
   show ((n.keys.length : Int) - ((j : Int) + 1)).toNat < ((n.keys.length : Int) - (j : Int)).toNat
   omega
 have hge : j = n.keys.length := by have := of_decide_eq_false hge; omega
 subst hge
 rw [List.take_of_length_le (l := cellsOf n) (by omega)]
 refine ⟨fun a i w' => ∃ j : Nat, i = j ∧ j ≤ most ∧ a = ((((cellsOf n).take j).sum : Nat) : Int) ∧ Ext w1 w' ∧ ∀ k, k < j → 2 * ((cellsOf n).take (k + 1)).sum < (cellsOf n).sum, fun _ i _ => ((most : Int) - i).toNat, ⟨0, rfl, Nat.zero_le _, by simp, hx2, fun k hk => by omega⟩, ?_⟩
 rintro _ _ w4 ⟨j, rfl, hj, rfl, hx4, hno⟩
 obtain ⟨d0, d1, d2, d3⟩ := ndCells (hv1.ext hx4)
 have hall := cells_sum_le hs (cellsOf n).length
 rw [List.take_length] at hall
 refine ⟨fun hlt => ?_, fun hge => ?_⟩
 · have hlt : j < most := by have := of_decide_eq_true hlt; omega
   refine ⟨_, d0, K, d1, V, d2, D, d3, (node_cell (h.ext (hx1.trans hx4)) hs (by omega) (by omega)).use ?_⟩
   rintro _ w5 ⟨s, rfl, ho, hx5, _⟩
   have hl := len8O ho
   have hb := cells_sum_le hs j
   have hc := cell_le hs (i := j) (by omega)
   have e := sum_take_succ (l := cellsOf n) (i := j) (by omega)
   rw [hcell j (by omega)] at e
   refine ⟨s, rfl, ?_⟩
   rw [hl, wrapi (n := ((((cellsOf n).take j).sum : Nat) : Int) + (((cellB n j).length : Nat) : Int)) (by omega) (by omega), wrapi (n := 2 * (((((cellsOf n).take j).sum : Nat) : Int) + (((cellB n j).length : Nat) : Int))) (by omega) (by omega), wrapi (n := (j : Int) + 1) (by omega) (by omega)]
   refine ⟨fun hd => ⟨?_, hx1.trans (hx4.trans hx5)⟩, fun hd => ⟨⟨j + 1, by omega, by omega, by omega, hx4.trans hx5, fun k hk => ?_⟩, ?_⟩⟩
   · have hd := of_decide_eq_true hd
     have hff : (List.range most).find? (fun i => decide ((cellsOf n).sum ≤ 2 * ((cellsOf n).take (i + 1)).sum)) = some j := by
       have := Nat.lt_of_lt_of_le hlt (Nat.le_refl most)
       rw [List.find?_eq_some_iff_append]
       refine ⟨decide_eq_true (by omega), List.range j, List.range' (j + 1) (most - (j + 1)), ?_, fun a ha => ?_⟩
       · have e1 := List.range'_append (s := 0) (m := j) (n := most - (j + 1) + 1) (step := 1)
         rw [List.range_eq_range', List.range_eq_range', ← List.range'_succ]
         rw [Nat.one_mul, Nat.zero_add] at e1
         rw [e1]
         congr 1
         omega
       · have := hno a (List.mem_range.1 ha)
         simp; omega
     unfold halfIx
     rw [hff]; rfl
   · have hd := of_decide_eq_false hd
     rcases Nat.lt_or_ge k j with h1 | h1
     · exact hno k h1
     · have : k = j := by omega
       subst this; omega
   · show ((most : Int) - ((j : Int) + 1)).toNat < ((most : Int) - (j : Int)).toNat
     omega
 · have hge : j = most := by have := of_decide_eq_false hge; omega
   subst hge
   refine ⟨?_, hx1.trans hx4⟩
   have hff : (List.range j).find? (fun i => decide ((cellsOf n).sum ≤ 2 * ((cellsOf n).take (i + 1)).sum)) = none := by
     rw [List.find?_eq_none]
     intro a ha
     have := hno a (List.mem_range.1 ha)
     simp; omega
   unfold halfIx
   rw [hff]
end Go.Proofs.YtplieiecebljmaaGreat
namespace Go.Proofs.YtplieiecebljmaaGreat
open Go Gx
theorem TxR.sub {B : Nat → Prop} {w : World} {s : Sl} {ls : List Key} {lo hi : Nat} (h : TxR B w s ls) (h1 : lo ≤ hi) (h2 : hi ≤ ls.length) : TxR B w ⟨cutA s.a 1 lo s.cap, hi - lo, s.cap - lo⟩ ((ls.drop lo).take (hi - lo)) := by
 have hl := TxR.len h
 obtain ⟨ts, g1, g2, g3, g4, g5⟩ := h
 refine ⟨(ts.drop lo).take (hi - lo), by simp [g1], ?_, by show hi - lo ≤ s.cap - lo; omega, fun k hk => ?_, fun i h3 h4 => ?_⟩
 · have := Src.sub g2 g3 h1 (by omega)
   simpa [List.map_drop, List.map_take] using this
 · obtain ⟨A, hA, hb⟩ := ownB_cut hk
   exact g4 k ⟨A, hA, hb⟩
 · simp only [List.getElem_take, List.getElem_drop]
   rw [List.length_take, List.length_drop] at h3 h4
   exact g5 (lo + i) (by omega) (by omega)
theorem TxR.le {B : Nat → Prop} {w : World} {s : Sl} {ls : List Key} (h : TxR B w s ls) : s.len ≤ s.cap := by
 obtain ⟨ts, _, _, h3, _⟩ := h
 exact h3
theorem InR.sub {B : Nat → Prop} {w : World} {s : Sl} {ds : List Nat} {lo hi : Nat} (h : InR B w s ds) (h1 : lo ≤ hi) (h2 : hi ≤ ds.length) : InR B w ⟨cutA s.a 1 lo s.cap, hi - lo, s.cap - lo⟩ ((ds.drop lo).take (hi - lo)) := by
 have hl := InR.len h
 obtain ⟨g2, g3, g4⟩ := h
 have g3' : s.len ≤ s.cap := g3
 refine ⟨?_, by show hi - lo ≤ s.cap - lo; omega, fun k hk => ?_⟩
 · have := Src.sub g2 g3 h1 (by omega)
   simpa [intsV, List.map_drop, List.map_take] using this
 · obtain ⟨A, hA, hb⟩ := ownB_cut hk
   exact g4 k ⟨A, hA, hb⟩
theorem nodePlain (b : Bool) (K V D : Sl) : ∀ v ∈ ([.bool b, .slice K.a K.len K.cap, .slice V.a V.len V.cap, .slice D.a D.len D.cap] : List Value), Plain v := by
 intro v hv
 simp only [List.mem_cons, List.not_mem_nil, or_false] at hv
 rcases hv with rfl | rfl | rfl | rfl <;> trivial
theorem ret2 {w70 : World} {r1 r2 : Nat} {vs1 vs2 : List Value} {b1 b2 : Bool} {K1 V1 D1 K2 V2 D2 : Sl} (h1 : Var w70 r1 vs1 Ty.api_Node) (h2 : Var w70 r2 vs2 Ty.api_Node) (l1 : vs1.length = 4) (l2 : vs2.length = 4) (hne : r1 ≠ r2) {W : Nat → Prop} (hW : ∀ q, q = r1 → W q)
   {Q : Bool → Sl → Sl → Sl → Bool → Sl → Sl → Sl → World → Prop} (hQ : ∀ w77, Chg (fun q => q = r1 ∨ q = r2) w70 w77 → Q b1 K1 V1 D1 b2 K2 V2 D2 w77) :
   StoreOk w70 ⟨r1, 0, none⟩ [.bool b1, .slice K1.a K1.len K1.cap, .slice V1.a V1.len V1.cap, .slice D1.a D1.len D1.cap] ∧ (4 : Nat) = 4 ∧ Nx (setCells w70 ⟨r1, 0, none⟩ 0 [.bool b1, .slice K1.a K1.len K1.cap, .slice V1.a V1.len V1.cap, .slice D1.a D1.len D1.cap]) fun w76 =>
     Chg W w70 w76 ∧ StoreOk w76 ⟨r2, 0, none⟩ [.bool b2, .slice K2.a K2.len K2.cap, .slice V2.a V2.len V2.cap, .slice D2.a D2.len D2.cap] ∧ (4 : Nat) = 4 ∧ Nx (setCells w76 ⟨r2, 0, none⟩ 0 [.bool b2, .slice K2.a K2.len K2.cap, .slice V2.a V2.len V2.cap, .slice D2.a D2.len D2.cap]) fun w77 =>
     ∃ b78 : Bool, w77.cell? ⟨r1, 0, none⟩ = some (.bool b78) ∧ ∃ s79 : Sl, w77.cell? (Addr.add ⟨r1, 0, none⟩ 1) = some (.slice s79.a s79.len s79.cap) ∧ ∃ s80 : Sl, w77.cell? (Addr.add ⟨r1, 0, none⟩ 2) = some (.slice s80.a s80.len s80.cap) ∧ ∃ s81 : Sl, w77.cell? (Addr.add ⟨r1, 0, none⟩ 3) = some (.slice s81.a s81.len s81.cap) ∧
     ∃ b82 : Bool, w77.cell? ⟨r2, 0, none⟩ = some (.bool b82) ∧ ∃ s83 : Sl, w77.cell? (Addr.add ⟨r2, 0, none⟩ 1) = some (.slice s83.a s83.len s83.cap) ∧ ∃ s84 : Sl, w77.cell? (Addr.add ⟨r2, 0, none⟩ 2) = some (.slice s84.a s84.len s84.cap) ∧ ∃ s85 : Sl, w77.cell? (Addr.add ⟨r2, 0, none⟩ 3) = some (.slice s85.a s85.len s85.cap) ∧ Q b78 s79 s80 s81 b82 s83 s84 s85 w77 := by
 refine ⟨h1.storeOk (by rw [l1]; rfl) (nodePlain _ _ _ _), rfl, nxPut h1 (us := [.bool b1, .slice K1.a K1.len K1.cap, .slice V1.a V1.len V1.cap, .slice D1.a D1.len D1.cap]) (by rw [l1]; rfl) rfl fun w76 hv1 hc1 _ => ?_⟩
 have h2' := h2.chg hc1 (fun e => hne e.symm)
 refine ⟨hc1.mono fun q _ h => hW q h, h2'.storeOk (by rw [l2]; rfl) (nodePlain _ _ _ _), rfl, nxPut h2' (us := [.bool b2, .slice K2.a K2.len K2.cap, .slice V2.a V2.len V2.cap, .slice D2.a D2.len D2.cap]) (by rw [l2]; rfl) rfl fun w77 hv2 hc2 _ => ?_⟩
 obtain ⟨c0, c1, c2, c3⟩ := ndCells (hv1.chg hc2 hne)
 obtain ⟨d0, d1, d2, d3⟩ := ndCells hv2
 exact ⟨b1, c0, K1, c1, V1, c2, D1, c3, b2, d0, K2, d1, V2, d2, D2, d3, hQ w77 ((hc1.mono fun q _ h => .inl h).trans (hc2.mono fun q _ h => .inr h))⟩
def SplitRes (n : Nd) (w : World) (v : Value) (w' : World) : Prop :=
 ∃ (K1 V1 D1 K2 V2 D2 t : Sl), v = .tuple #[ndV (n.left (cutIx n)) K1 V1 D1, .slice t.a t.len t.cap, ndV (n.right (cutIx n)) K2 V2 D2, .bool true] ∧
   NdAt (fun q => w.heap.size ≤ q) w' (n.left (cutIx n)) K1 V1 D1 ∧ NdAt (fun q => w.heap.size ≤ q) w' (n.right (cutIx n)) K2 V2 D2 ∧ Tx (fun q => w.heap.size ≤ q) w' t (n.keys.getD (cutIx n) []) ∧ Ext w w'
theorem node_Split {B : Nat → Prop} {w : World} {n : Nd} {K V D : Sl} (h : NdAt B w n K V D) (hs : SoundN n) (hn : n.keys.length ≤ 10000) (hi1 : 1 ≤ cutIx n)
   (hi2 : if n.leaf then cutIx n ≤ n.keys.length - 1 ∧ 1 ≤ n.keys.length - 1 else cutIx n ≤ n.keys.length - 2 ∧ 1 ≤ n.keys.length - 2) :
   Ret Tryz.prog F.node_Split #[ndV n K V D] w (SplitRes n w) := by
 have hvl : n.vals.length ≤ 10000 := by
   rcases hs with hs | hs
   · rw [hs.len]; omega
   · rw [hs.vals]; simp
 have hdl : n.kids.length ≤ 10001 := by
   rcases hs with hs | hs
   · rw [hs.kids]; simp
   · rw [hs.len]; omega
 have hkl : ∀ k ∈ n.keys, k.length ≤ 100000 := fun k hk => by have := (hs.keys.ok k hk).2; omega
 have hvl2 : ∀ k ∈ n.vals, k.length ≤ 100000 := fun k hk => by have := hs.vals k hk; omega
 have lk := TxR.len h.keys
 obtain ⟨most, hmost⟩ : ∃ most, most = if n.leaf then n.keys.length - 1 else n.keys.length - 2 := ⟨_, rfl⟩
 have hmb : 1 ≤ most ∧ most ≤ n.keys.length ∧ cutIx n ≤ most := by
   rw [hmost]
   cases hl : n.leaf <;> rw [hl] at hi2 <;> simp at hi2 ⊢ <;> omega
 have hilt : cutIx n < n.keys.length := by
   cases hl : n.leaf <;> rw [hl] at hi2 <;> simp at hi2 <;> omega
 refine W.node_Split_ok n.leaf K V D w _ ?_
 (delta W.node_Split z1 r1 nA r3 Br wI c3 c11 c2 bd c12 T5; dsimp only)
 refine nxVar (vs := [.bool n.leaf, .slice K.a K.len K.cap, .slice V.a V.len V.cap, .slice D.a D.len D.cap]) rfl fun w1 hp1 hx1 hz1 => ?_
 refine nxVar (vs := [.bool false, .slice none 0 0, .slice none 0 0, .slice none 0 0]) rfl fun w2 hr1 hx2 hz2 => ?_
 refine nxVar (vs := [.bool false, .slice none 0 0, .slice none 0 0, .slice none 0 0]) rfl fun w3 hr2 hx3 hz3 => ?_
 have hX3 := hx1.trans (hx2.trans hx3)
 obtain ⟨c0, c1, c2, c3⟩ := ndCells ((hp1.ext hx2).ext hx3)
 refine ⟨K, c1, Jn1 (fun m w' => m = ((most : Nat) : Int) ∧ w3 = w') (fun q hq => ⟨n.leaf, c0, fun hb => hq _ _ ⟨?_, rfl⟩, fun hb => hq _ _ ⟨?_, rfl⟩⟩) ?_⟩
 · have hb : n.leaf = false := by simpa using hb
   rw [hb] at hi2 hmost
   simp at hi2 hmost
   rw [wrapi (n := ((K.len : Nat) : Int) - 1) (by omega) (by omega), wrapi (by omega) (by omega)]
   omega
 · have hb : n.leaf = true := by simpa using hb
   rw [hb] at hi2 hmost
   simp at hi2 hmost
   rw [wrapi (by omega) (by omega)]
   omega
 rintro _ _ ⟨rfl, rfl⟩
 refine ⟨_, c0, K, c1, V, c2, D, c3, (node_sound (h.ext hX3) (by omega) (by omega) (by omega)).use ?_⟩
 rintro _ w4 ⟨b, rfl, hb, hx4⟩
 have hbt := hb.2 hs
 subst hbt
 have hxd := ext_drew w4
 have hX5 := hX3.trans (hx4.trans hxd)
 have hp5 := ((hp1.ext hx2).ext hx3).ext (hx4.trans hxd)
 have hr15 := (hr1.ext hx3).ext (hx4.trans hxd)
 have hr25 := hr2.ext (hx4.trans hxd)
 have hz5 := (hx4.trans hxd).size
 obtain ⟨c0, c1, c2, c3⟩ := ndCells hp5
 refine ⟨true, rfl, fun h => ?_, fun _ => nx ⟨fun _ => False, id, _, c0, K, c1, V, c2, D, c3, id, _, c0, K, c1, V, c2, D, c3, ⟨?_, ?_⟩⟩⟩
 · simp only [Bool.not_true, Bool.false_or] at h
   have := of_decide_eq_true h; omega
 · refine (node_own (h.ext hX5) (by omega) (by omega) (by omega) hkl hvl2).use ?_
   rintro _ w6 ⟨K', V', D', BK, BV, BD, rfl, hm6, hx6⟩
   refine ⟨n.leaf, K', V', D', rfl, hx6, ⟨?_, ?_⟩⟩
   · refine (node_half (h.ext (hX5.trans hx6)) hs hn (most := most) hmb.2.1).use ?_
     rintro _ w7 ⟨rfl, hx7⟩
     refine ⟨_, rfl, hx7, nxVar (vs := [.bool false, .slice none 0 0, .slice none 0 0, .slice none 0 0]) rfl fun w8 ho8 hx8 hz8 => ⟨hx8, ho8.storeOk rfl (nodePlain _ _ _ _), rfl, nxPut ho8 (us := [.bool n.leaf, .slice K'.a K'.len K'.cap, .slice V'.a V'.len V'.cap, .slice D'.a D'.len D'.cap]) rfl rfl fun w9 ho9 hc9 hz9 => ?_⟩⟩
     have hz6 := hx6.size
     have hz7 := hx7.size
     obtain ⟨ob, hob⟩ : ∃ ob, ob = w7.heap.size := ⟨_, rfl⟩
     rw [← hob] at ho9 hc9 ⊢
     have hxA := hx6.trans (hx7.trans hx8)
     have hm9 : NdMem w4.heap.size w9 n K' V' D' BK BV BD := (hm6.ext (hx7.trans hx8)).chg hc9 fun q _ _ hq e => by
       subst e
       rcases hq with hq | hq | hq
       · have := (hm6.bk _ hq).2.1; omega
       · have := (hm6.bv _ hq).2.1; omega
       · have := (hm6.bd _ hq).2; omega
     have hz59 : w4.drew.heap.size = w4.heap.size := rfl
     have hXT : Ext w w9 := Ext.of_chg (hX5.trans hxA) hc9 (by omega)
     have hpT := (hp5.ext hxA).chg hc9 (by omega)
     have hr1T := (hr15.ext hxA).chg hc9 (by omega)
     have hr2T := (hr25.ext hxA).chg hc9 (by omega)
     have hci : halfIx (cellsOf n) most = cutIx n := by unfold cutIx; rw [hmost]
     rw [hci]
     obtain ⟨i, hi⟩ : ∃ i, i = cutIx n := ⟨_, rfl⟩
     rw [← hi] at hilt hmb hi1
     rw [← hi]
     obtain ⟨e0, e1, e2, e3⟩ := ndCells hpT
     obtain ⟨A, t, hA, hb2, hc, ht, _⟩ := TxR.at (h.ext hXT).keys hilt
     refine ⟨K, e1, A, hA, hb2, t, hc, (cloneTx (B := fun q => w.heap.size ≤ q) ht.1 (by have := hkl _ (List.getElem_mem hilt); omega) (fun q hq => Nat.le_trans hXT.size hq)).use ?_⟩
     rintro _ w10 ⟨tk, rfl, htk, hx10, hftk⟩
     have hxe := ext_drew w10
     obtain ⟨e0, e1, e2, e3⟩ := ndCells (hpT.ext hx10)
     have hxT := hx10.trans hxe
     obtain ⟨f0, f1, f2, f3⟩ := ndCells (ho9.ext hxT)
     have hn11 := hm9.at.ext hxT
     have lk' := TxR.len hn11.keys
     have lv' := TxR.len hn11.vals
     have ld' := InR.len hn11.kids
     have ck' := TxR.le (TxO.txR hm9.keys)
     have cv' := TxR.le (TxO.txR hm9.vals)
     have cd' : D'.len ≤ D'.cap := hn11.kids.2.1
     have hzw : w9.heap.size ≤ w10.heap.size := hx10.size
     have hgd : n.keys.getD i [] = n.keys[i] := getD_lt hilt
     refine ⟨tk, rfl, n.leaf, e0, fun hl => nx ⟨fun q => q = w1.heap.size, fun e => ?_, K', f1, ⟨by omega, by omega⟩, fun e => ?_, V', f2, ⟨by omega, ?_⟩, #[.bool true, .slice (cutA K'.a 1 0 K'.cap) i K'.cap, .slice (cutA V'.a 1 0 V'.cap) i V'.cap, .slice none 0 0], (fun w => by kernel_rfl), fun e => ?_, K', f1, ⟨by omega, by omega⟩, fun e => ?_, V', f2, ⟨by omega, ?_⟩, #[.bool true, .slice (cutA K'.a 1 i K'.cap) (K'.len - i) (K'.cap - i), .slice (cutA V'.a 1 i V'.cap) (V'.len - i) (V'.cap - i), .slice none 0 0], (fun w => by kernel_rfl), ?_⟩, fun hl => ?_⟩
     · rw [add_mk] at e; have e : ob = w1.heap.size := e; omega
     · rw [add_mk] at e; have e : ob = w1.heap.size := e; omega
     · have := hs.valsAt hl; omega
     · rw [add_mk] at e; have e : ob = w1.heap.size := e; omega
     · rw [add_mk] at e; have e : ob = w1.heap.size := e; omega
     · have := hs.valsAt hl; omega
     · have hvk := hs.valsAt hl
       have hL : n.left i = ⟨true, n.keys.take i, n.vals.take i, []⟩ := by unfold Nd.left; rw [hl]; rfl
       have hR : n.right i = ⟨true, n.keys.drop i, n.vals.drop i, []⟩ := by unfold Nd.right; rw [hl]; rfl
       have hnL : NdAt (fun q => w4.heap.size ≤ q) w10.drew (n.left i) ⟨cutA K'.a 1 0 K'.cap, i, K'.cap⟩ ⟨cutA V'.a 1 0 V'.cap, i, V'.cap⟩ nil3 := by
         rw [hL]
         refine ⟨?_, ?_, InR.none _ _⟩
         · have := TxR.sub hn11.keys (lo := 0) (hi := i) (by omega) (by omega)
           simpa using this
         · have := TxR.sub hn11.vals (lo := 0) (hi := i) (by omega) (by omega)
           simpa using this
       have hnR : NdAt (fun q => w4.heap.size ≤ q) w10.drew (n.right i) ⟨cutA K'.a 1 i K'.cap, K'.len - i, K'.cap - i⟩ ⟨cutA V'.a 1 i V'.cap, V'.len - i, V'.cap - i⟩ nil3 := by
         rw [hR]
         refine ⟨?_, ?_, InR.none _ _⟩
         · have := TxR.sub hn11.keys (lo := i) (hi := K'.len) (by omega) (by omega)
           rwa [List.take_of_length_le (by rw [List.length_drop]; omega)] at this
         · have := TxR.sub hn11.vals (lo := i) (hi := V'.len) (by omega) (by omega)
           rwa [List.take_of_length_le (by rw [List.length_drop]; omega)] at this
       have own1 := node_own hnL (by rw [hL]; show (n.keys.take i).length ≤ _; rw [List.length_take]; omega) (by rw [hL]; show (n.vals.take i).length ≤ _; rw [List.length_take]; omega) (by rw [hL]; simp) (by rw [hL]; exact fun k hk => hkl k (List.mem_of_mem_take hk)) (by rw [hL]; exact fun k hk => hvl2 k (List.mem_of_mem_take hk))
       have eL : (.agg #[.bool true, .slice (cutA K'.a 1 0 K'.cap) i K'.cap, .slice (cutA V'.a 1 0 V'.cap) i V'.cap, .slice none 0 0] : Value) = ndV (n.left i) ⟨cutA K'.a 1 0 K'.cap, i, K'.cap⟩ ⟨cutA V'.a 1 0 V'.cap, i, V'.cap⟩ nil3 := by rw [hL]; rfl
       have eR : (.agg #[.bool true, .slice (cutA K'.a 1 i K'.cap) (K'.len - i) (K'.cap - i), .slice (cutA V'.a 1 i V'.cap) (V'.len - i) (V'.cap - i), .slice none 0 0] : Value) = ndV (n.right i) ⟨cutA K'.a 1 i K'.cap, K'.len - i, K'.cap - i⟩ ⟨cutA V'.a 1 i V'.cap, V'.len - i, V'.cap - i⟩ nil3 := by rw [hR]; rfl
       rw [eL, eR]
       refine own1.use ?_
       rintro _ w12 ⟨K1, V1, D1, BK1, BV1, BD1, rfl, hm12, hx12⟩
       have own2 := node_own (hnR.ext hx12) (by rw [hR]; show (n.keys.drop i).length ≤ _; rw [List.length_drop]; omega) (by rw [hR]; show (n.vals.drop i).length ≤ _; rw [List.length_drop]; omega) (by rw [hR]; simp) (by rw [hR]; exact fun k hk => hkl k (List.mem_of_mem_drop hk)) (by rw [hR]; exact fun k hk => hvl2 k (List.mem_of_mem_drop hk))
       refine ⟨_, K1, V1, D1, rfl, Chg.of_ext hx12, own2.use ?_⟩
       rintro _ w13 ⟨K2, V2, D2, BK2, BV2, BD2, rfl, hm13, hx13⟩
       have hxU := hx12.trans hx13
       have hzz := hx12.size
       have hzu := hxT.size
       refine ⟨_, K2, V2, D2, rfl, Chg.of_ext hx13, ret2 (b1 := (n.left i).leaf) (b2 := (n.right i).leaf) (K1 := K1) (V1 := V1) (D1 := D1) (K2 := K2) (V2 := V2) (D2 := D2) ((hr1T.ext hxT).ext hxU) ((hr2T.ext hxT).ext hxU) rfl rfl (by omega) (fun q hq => hq) (Q := fun b1 K1 V1 D1 b2 K2 V2 D2 w' => SplitRes n w (.tuple #[.agg #[.bool b1, .slice K1.a K1.len K1.cap, .slice V1.a V1.len V1.cap, .slice D1.a D1.len D1.cap], .slice tk.a tk.len tk.cap, .agg #[.bool b2, .slice K2.a K2.len K2.cap, .slice V2.a V2.len V2.cap, .slice D2.a D2.len D2.cap], .bool true]) w') fun w14 hc14 => ?_⟩
       have hzd : w10.drew.heap.size = w10.heap.size := rfl
       refine ⟨K1, V1, D1, K2, V2, D2, tk, by rw [← hi]; rfl, ?_, ?_, ?_, ?_⟩
       · rw [← hi]; exact ((hm12.at.ext hx13).chg hc14 fun q hq e => by omega).weak fun q _ hq => by omega
       · rw [← hi]; exact (hm13.at.chg hc14 fun q hq e => by omega).weak fun q _ hq => by omega
       · rw [← hi, hgd]
         have hfr : ∀ q, ownB tk q → w9.heap.size ≤ q := hftk
         exact Tx.chg2 (Tx.ext (Tx.ext htk hxe) hxU) hc14 fun q hq e => by have := hfr q hq; omega
       · exact Ext.of_new (hXT.trans (hxT.trans hxU)) hc14 fun q hq => by omega
     · have hvk := hs.kidsAt hl
       have hi2' : i ≤ n.keys.length - 2 ∧ 1 ≤ n.keys.length - 2 := by rw [hl, ← hi] at hi2; simpa using hi2
       have ewr : IntKind.wrap .i64 ((i : Int) + 1) = ((i + 1 : Nat) : Int) := by rw [wrapi (by omega) (by omega)]; rfl
       rw [ewr]
       refine nx ⟨fun q => q = w1.heap.size, fun e => ?_, K', f1, ⟨by omega, by omega⟩, fun e => ?_, D', f3, ⟨by omega, by omega⟩, #[.bool false, .slice (cutA K'.a 1 0 K'.cap) i K'.cap, .slice none 0 0, .slice (cutA D'.a 1 0 D'.cap) (i + 1) D'.cap], (fun w => by kernel_rfl), fun e => ?_, K', f1, ⟨by omega, by omega⟩, fun e => ?_, D', f3, ⟨by omega, by omega⟩, #[.bool false, .slice (cutA K'.a 1 (i + 1) K'.cap) (K'.len - (i + 1)) (K'.cap - (i + 1)), .slice none 0 0, .slice (cutA D'.a 1 (i + 1) D'.cap) (D'.len - (i + 1)) (D'.cap - (i + 1))], (fun w => by kernel_rfl), ?_⟩
       · rw [add_mk] at e; have e : ob = w1.heap.size := e; omega
       · rw [add_mk] at e; have e : ob = w1.heap.size := e; omega
       · rw [add_mk] at e; have e : ob = w1.heap.size := e; omega
       · rw [add_mk] at e; have e : ob = w1.heap.size := e; omega
       have hL : n.left i = ⟨false, n.keys.take i, [], n.kids.take (i + 1)⟩ := by unfold Nd.left; rw [hl]; rfl
       have hR : n.right i = ⟨false, n.keys.drop (i + 1), [], n.kids.drop (i + 1)⟩ := by unfold Nd.right; rw [hl]; rfl
       have hnL : NdAt (fun q => w4.heap.size ≤ q) w10.drew (n.left i) ⟨cutA K'.a 1 0 K'.cap, i, K'.cap⟩ nil3 ⟨cutA D'.a 1 0 D'.cap, i + 1, D'.cap⟩ := by
         rw [hL]
         refine ⟨?_, TxR.none _ _, ?_⟩
         · have := TxR.sub hn11.keys (lo := 0) (hi := i) (by omega) (by omega)
           simpa using this
         · have := InR.sub hn11.kids (lo := 0) (hi := i + 1) (by omega) (by omega)
           simpa using this
       have hnR : NdAt (fun q => w4.heap.size ≤ q) w10.drew (n.right i) ⟨cutA K'.a 1 (i + 1) K'.cap, K'.len - (i + 1), K'.cap - (i + 1)⟩ nil3 ⟨cutA D'.a 1 (i + 1) D'.cap, D'.len - (i + 1), D'.cap - (i + 1)⟩ := by
         rw [hR]
         refine ⟨?_, TxR.none _ _, ?_⟩
         · have := TxR.sub hn11.keys (lo := i + 1) (hi := K'.len) (by omega) (by omega)
           rwa [List.take_of_length_le (by rw [List.length_drop]; omega)] at this
         · have := InR.sub hn11.kids (lo := i + 1) (hi := D'.len) (by omega) (by omega)
           rwa [List.take_of_length_le (by rw [List.length_drop]; omega)] at this
       have own1 := node_own hnL (by rw [hL]; show (n.keys.take i).length ≤ _; rw [List.length_take]; omega) (by rw [hL]; simp) (by rw [hL]; show (n.kids.take (i + 1)).length ≤ _; rw [List.length_take]; omega) (by rw [hL]; exact fun k hk => hkl k (List.mem_of_mem_take hk)) (by rw [hL]; simp)
       have eL : (.agg #[.bool false, .slice (cutA K'.a 1 0 K'.cap) i K'.cap, .slice none 0 0, .slice (cutA D'.a 1 0 D'.cap) (i + 1) D'.cap] : Value) = ndV (n.left i) ⟨cutA K'.a 1 0 K'.cap, i, K'.cap⟩ nil3 ⟨cutA D'.a 1 0 D'.cap, i + 1, D'.cap⟩ := by rw [hL]; rfl
       have eR : (.agg #[.bool false, .slice (cutA K'.a 1 (i + 1) K'.cap) (K'.len - (i + 1)) (K'.cap - (i + 1)), .slice none 0 0, .slice (cutA D'.a 1 (i + 1) D'.cap) (D'.len - (i + 1)) (D'.cap - (i + 1))] : Value) = ndV (n.right i) ⟨cutA K'.a 1 (i + 1) K'.cap, K'.len - (i + 1), K'.cap - (i + 1)⟩ nil3 ⟨cutA D'.a 1 (i + 1) D'.cap, D'.len - (i + 1), D'.cap - (i + 1)⟩ := by rw [hR]; rfl
       rw [eL, eR]
       refine own1.use ?_
       rintro _ w12 ⟨K1, V1, D1, BK1, BV1, BD1, rfl, hm12, hx12⟩
       have own2 := node_own (hnR.ext hx12) (by rw [hR]; show (n.keys.drop (i + 1)).length ≤ _; rw [List.length_drop]; omega) (by rw [hR]; simp) (by rw [hR]; show (n.kids.drop (i + 1)).length ≤ _; rw [List.length_drop]; omega) (by rw [hR]; exact fun k hk => hkl k (List.mem_of_mem_drop hk)) (by rw [hR]; simp)
       refine ⟨_, K1, V1, D1, rfl, Chg.of_ext hx12, own2.use ?_⟩
       rintro _ w13 ⟨K2, V2, D2, BK2, BV2, BD2, rfl, hm13, hx13⟩
       have hxU := hx12.trans hx13
       have hzz := hx12.size
       have hzu := hxT.size
       refine ⟨_, K2, V2, D2, rfl, Chg.of_ext hx13, ret2 (b1 := (n.left i).leaf) (b2 := (n.right i).leaf) (K1 := K1) (V1 := V1) (D1 := D1) (K2 := K2) (V2 := V2) (D2 := D2) ((hr1T.ext hxT).ext hxU) ((hr2T.ext hxT).ext hxU) rfl rfl (by omega) (fun q hq => hq) (Q := fun b1 K1 V1 D1 b2 K2 V2 D2 w' => SplitRes n w (.tuple #[.agg #[.bool b1, .slice K1.a K1.len K1.cap, .slice V1.a V1.len V1.cap, .slice D1.a D1.len D1.cap], .slice tk.a tk.len tk.cap, .agg #[.bool b2, .slice K2.a K2.len K2.cap, .slice V2.a V2.len V2.cap, .slice D2.a D2.len D2.cap], .bool true]) w') fun w14 hc14 => ?_⟩
       have hzd : w10.drew.heap.size = w10.heap.size := rfl
       refine ⟨K1, V1, D1, K2, V2, D2, tk, by rw [← hi]; rfl, ?_, ?_, ?_, ?_⟩
       · rw [← hi]; exact ((hm12.at.ext hx13).chg hc14 fun q hq e => by omega).weak fun q _ hq => by omega
       · rw [← hi]; exact (hm13.at.chg hc14 fun q hq e => by omega).weak fun q _ hq => by omega
       · rw [← hi, hgd]
         have hfr : ∀ q, ownB tk q → w9.heap.size ≤ q := hftk
         exact Tx.chg2 (Tx.ext (Tx.ext htk hxe) hxU) hc14 fun q hq e => by have := hfr q hq; omega
       · exact Ext.of_new (hXT.trans (hxT.trans hxU)) hc14 fun q hq => by omega
   · refine nxVar (vs := [.bool false, .slice none 0 0, .slice none 0 0, .slice none 0 0]) rfl fun w7 ho7 hx7 hz7' => ⟨hx7, ?_⟩
     refine (node_half (h.ext (hX5.trans (hx6.trans hx7))) hs hn (most := most) hmb.2.1).use ?_
     rintro _ w8 ⟨rfl, hx8⟩
     have ho8 := ho7.ext hx8
     refine ⟨_, rfl, hx8, ho8.storeOk rfl (nodePlain _ _ _ _), rfl, nxPut ho8 (us := [.bool n.leaf, .slice K'.a K'.len K'.cap, .slice V'.a V'.len V'.cap, .slice D'.a D'.len D'.cap]) rfl rfl fun w9 ho9 hc9 hz9 => ?_⟩
     have hz6 := hx6.size
     have hz8 := hx8.size
     obtain ⟨ob, hob⟩ : ∃ ob, ob = w6.heap.size := ⟨_, rfl⟩
     rw [← hob] at ho9 hc9 ⊢
     have hxA := hx6.trans (hx7.trans hx8)
     have hm9 : NdMem w4.heap.size w9 n K' V' D' BK BV BD := (hm6.ext (hx7.trans hx8)).chg hc9 fun q _ _ hq e => by
       subst e
       rcases hq with hq | hq | hq
       · have := (hm6.bk _ hq).2.1; omega
       · have := (hm6.bv _ hq).2.1; omega
       · have := (hm6.bd _ hq).2; omega
     have hz59 : w4.drew.heap.size = w4.heap.size := rfl
     have hXT : Ext w w9 := Ext.of_chg (hX5.trans hxA) hc9 (by omega)
     have hpT := (hp5.ext hxA).chg hc9 (by omega)
     have hr1T := (hr15.ext hxA).chg hc9 (by omega)
     have hr2T := (hr25.ext hxA).chg hc9 (by omega)
     have hci : halfIx (cellsOf n) most = cutIx n := by unfold cutIx; rw [hmost]
     rw [hci]
     obtain ⟨i, hi⟩ : ∃ i, i = cutIx n := ⟨_, rfl⟩
     rw [← hi] at hilt hmb hi1
     rw [← hi]
     obtain ⟨e0, e1, e2, e3⟩ := ndCells hpT
     obtain ⟨A, t, hA, hb2, hc, ht, _⟩ := TxR.at (h.ext hXT).keys hilt
     refine ⟨K, e1, A, hA, hb2, t, hc, (cloneTx (B := fun q => w.heap.size ≤ q) ht.1 (by have := hkl _ (List.getElem_mem hilt); omega) (fun q hq => Nat.le_trans hXT.size hq)).use ?_⟩
     rintro _ w10 ⟨tk, rfl, htk, hx10, hftk⟩
     have hxe := ext_drew w10
     obtain ⟨e0, e1, e2, e3⟩ := ndCells (hpT.ext hx10)
     have hxT := hx10.trans hxe
     obtain ⟨f0, f1, f2, f3⟩ := ndCells (ho9.ext hxT)
     have hn11 := hm9.at.ext hxT
     have lk' := TxR.len hn11.keys
     have lv' := TxR.len hn11.vals
     have ld' := InR.len hn11.kids
     have ck' := TxR.le (TxO.txR hm9.keys)
     have cv' := TxR.le (TxO.txR hm9.vals)
     have cd' : D'.len ≤ D'.cap := hn11.kids.2.1
     have hzw : w9.heap.size ≤ w10.heap.size := hx10.size
     have hgd : n.keys.getD i [] = n.keys[i] := getD_lt hilt
     refine ⟨tk, rfl, n.leaf, e0, fun hl => nx ⟨fun q => q = w1.heap.size, fun e => ?_, K', f1, ⟨by omega, by omega⟩, fun e => ?_, V', f2, ⟨by omega, ?_⟩, #[.bool true, .slice (cutA K'.a 1 0 K'.cap) i K'.cap, .slice (cutA V'.a 1 0 V'.cap) i V'.cap, .slice none 0 0], (fun w => by kernel_rfl), fun e => ?_, K', f1, ⟨by omega, by omega⟩, fun e => ?_, V', f2, ⟨by omega, ?_⟩, #[.bool true, .slice (cutA K'.a 1 i K'.cap) (K'.len - i) (K'.cap - i), .slice (cutA V'.a 1 i V'.cap) (V'.len - i) (V'.cap - i), .slice none 0 0], (fun w => by kernel_rfl), ?_⟩, fun hl => ?_⟩
     · rw [add_mk] at e; have e : ob = w1.heap.size := e; omega
     · rw [add_mk] at e; have e : ob = w1.heap.size := e; omega
     · have := hs.valsAt hl; omega
     · rw [add_mk] at e; have e : ob = w1.heap.size := e; omega
     · rw [add_mk] at e; have e : ob = w1.heap.size := e; omega
     · have := hs.valsAt hl; omega
     · have hvk := hs.valsAt hl
       have hL : n.left i = ⟨true, n.keys.take i, n.vals.take i, []⟩ := by unfold Nd.left; rw [hl]; rfl
       have hR : n.right i = ⟨true, n.keys.drop i, n.vals.drop i, []⟩ := by unfold Nd.right; rw [hl]; rfl
       have hnL : NdAt (fun q => w4.heap.size ≤ q) w10.drew (n.left i) ⟨cutA K'.a 1 0 K'.cap, i, K'.cap⟩ ⟨cutA V'.a 1 0 V'.cap, i, V'.cap⟩ nil3 := by
         rw [hL]
         refine ⟨?_, ?_, InR.none _ _⟩
         · have := TxR.sub hn11.keys (lo := 0) (hi := i) (by omega) (by omega)
           simpa using this
         · have := TxR.sub hn11.vals (lo := 0) (hi := i) (by omega) (by omega)
           simpa using this
       have hnR : NdAt (fun q => w4.heap.size ≤ q) w10.drew (n.right i) ⟨cutA K'.a 1 i K'.cap, K'.len - i, K'.cap - i⟩ ⟨cutA V'.a 1 i V'.cap, V'.len - i, V'.cap - i⟩ nil3 := by
         rw [hR]
         refine ⟨?_, ?_, InR.none _ _⟩
         · have := TxR.sub hn11.keys (lo := i) (hi := K'.len) (by omega) (by omega)
           rwa [List.take_of_length_le (by rw [List.length_drop]; omega)] at this
         · have := TxR.sub hn11.vals (lo := i) (hi := V'.len) (by omega) (by omega)
           rwa [List.take_of_length_le (by rw [List.length_drop]; omega)] at this
       have own1 := node_own hnL (by rw [hL]; show (n.keys.take i).length ≤ _; rw [List.length_take]; omega) (by rw [hL]; show (n.vals.take i).length ≤ _; rw [List.length_take]; omega) (by rw [hL]; simp) (by rw [hL]; exact fun k hk => hkl k (List.mem_of_mem_take hk)) (by rw [hL]; exact fun k hk => hvl2 k (List.mem_of_mem_take hk))
       have eL : (.agg #[.bool true, .slice (cutA K'.a 1 0 K'.cap) i K'.cap, .slice (cutA V'.a 1 0 V'.cap) i V'.cap, .slice none 0 0] : Value) = ndV (n.left i) ⟨cutA K'.a 1 0 K'.cap, i, K'.cap⟩ ⟨cutA V'.a 1 0 V'.cap, i, V'.cap⟩ nil3 := by rw [hL]; rfl
       have eR : (.agg #[.bool true, .slice (cutA K'.a 1 i K'.cap) (K'.len - i) (K'.cap - i), .slice (cutA V'.a 1 i V'.cap) (V'.len - i) (V'.cap - i), .slice none 0 0] : Value) = ndV (n.right i) ⟨cutA K'.a 1 i K'.cap, K'.len - i, K'.cap - i⟩ ⟨cutA V'.a 1 i V'.cap, V'.len - i, V'.cap - i⟩ nil3 := by rw [hR]; rfl
       rw [eL, eR]
       refine own1.use ?_
       rintro _ w12 ⟨K1, V1, D1, BK1, BV1, BD1, rfl, hm12, hx12⟩
       have own2 := node_own (hnR.ext hx12) (by rw [hR]; show (n.keys.drop i).length ≤ _; rw [List.length_drop]; omega) (by rw [hR]; show (n.vals.drop i).length ≤ _; rw [List.length_drop]; omega) (by rw [hR]; simp) (by rw [hR]; exact fun k hk => hkl k (List.mem_of_mem_drop hk)) (by rw [hR]; exact fun k hk => hvl2 k (List.mem_of_mem_drop hk))
       refine ⟨_, K1, V1, D1, rfl, Chg.of_ext hx12, own2.use ?_⟩
       rintro _ w13 ⟨K2, V2, D2, BK2, BV2, BD2, rfl, hm13, hx13⟩
       have hxU := hx12.trans hx13
       have hzz := hx12.size
       have hzu := hxT.size
       refine ⟨_, K2, V2, D2, rfl, Chg.of_ext hx13, ret2 (b1 := (n.left i).leaf) (b2 := (n.right i).leaf) (K1 := K1) (V1 := V1) (D1 := D1) (K2 := K2) (V2 := V2) (D2 := D2) ((hr1T.ext hxT).ext hxU) ((hr2T.ext hxT).ext hxU) rfl rfl (by omega) (fun q hq => hq) (Q := fun b1 K1 V1 D1 b2 K2 V2 D2 w' => SplitRes n w (.tuple #[.agg #[.bool b1, .slice K1.a K1.len K1.cap, .slice V1.a V1.len V1.cap, .slice D1.a D1.len D1.cap], .slice tk.a tk.len tk.cap, .agg #[.bool b2, .slice K2.a K2.len K2.cap, .slice V2.a V2.len V2.cap, .slice D2.a D2.len D2.cap], .bool true]) w') fun w14 hc14 => ?_⟩
       have hzd : w10.drew.heap.size = w10.heap.size := rfl
       refine ⟨K1, V1, D1, K2, V2, D2, tk, by rw [← hi]; rfl, ?_, ?_, ?_, ?_⟩
       · rw [← hi]; exact ((hm12.at.ext hx13).chg hc14 fun q hq e => by omega).weak fun q _ hq => by omega
       · rw [← hi]; exact (hm13.at.chg hc14 fun q hq e => by omega).weak fun q _ hq => by omega
       · rw [← hi, hgd]
         have hfr : ∀ q, ownB tk q → w9.heap.size ≤ q := hftk
         exact Tx.chg2 (Tx.ext (Tx.ext htk hxe) hxU) hc14 fun q hq e => by have := hfr q hq; omega
       · exact Ext.of_new (hXT.trans (hxT.trans hxU)) hc14 fun q hq => by omega
     · have hvk := hs.kidsAt hl
       have hi2' : i ≤ n.keys.length - 2 ∧ 1 ≤ n.keys.length - 2 := by rw [hl, ← hi] at hi2; simpa using hi2
       have ewr : IntKind.wrap .i64 ((i : Int) + 1) = ((i + 1 : Nat) : Int) := by rw [wrapi (by omega) (by omega)]; rfl
       rw [ewr]
       refine nx ⟨fun q => q = w1.heap.size, fun e => ?_, K', f1, ⟨by omega, by omega⟩, fun e => ?_, D', f3, ⟨by omega, by omega⟩, #[.bool false, .slice (cutA K'.a 1 0 K'.cap) i K'.cap, .slice none 0 0, .slice (cutA D'.a 1 0 D'.cap) (i + 1) D'.cap], (fun w => by kernel_rfl), fun e => ?_, K', f1, ⟨by omega, by omega⟩, fun e => ?_, D', f3, ⟨by omega, by omega⟩, #[.bool false, .slice (cutA K'.a 1 (i + 1) K'.cap) (K'.len - (i + 1)) (K'.cap - (i + 1)), .slice none 0 0, .slice (cutA D'.a 1 (i + 1) D'.cap) (D'.len - (i + 1)) (D'.cap - (i + 1))], (fun w => by kernel_rfl), ?_⟩
       · rw [add_mk] at e; have e : ob = w1.heap.size := e; omega
       · rw [add_mk] at e; have e : ob = w1.heap.size := e; omega
       · rw [add_mk] at e; have e : ob = w1.heap.size := e; omega
       · rw [add_mk] at e; have e : ob = w1.heap.size := e; omega
       have hL : n.left i = ⟨false, n.keys.take i, [], n.kids.take (i + 1)⟩ := by unfold Nd.left; rw [hl]; rfl
       have hR : n.right i = ⟨false, n.keys.drop (i + 1), [], n.kids.drop (i + 1)⟩ := by unfold Nd.right; rw [hl]; rfl
       have hnL : NdAt (fun q => w4.heap.size ≤ q) w10.drew (n.left i) ⟨cutA K'.a 1 0 K'.cap, i, K'.cap⟩ nil3 ⟨cutA D'.a 1 0 D'.cap, i + 1, D'.cap⟩ := by
         rw [hL]
         refine ⟨?_, TxR.none _ _, ?_⟩
         · have := TxR.sub hn11.keys (lo := 0) (hi := i) (by omega) (by omega)
           simpa using this
         · have := InR.sub hn11.kids (lo := 0) (hi := i + 1) (by omega) (by omega)
           simpa using this
       have hnR : NdAt (fun q => w4.heap.size ≤ q) w10.drew (n.right i) ⟨cutA K'.a 1 (i + 1) K'.cap, K'.len - (i + 1), K'.cap - (i + 1)⟩ nil3 ⟨cutA D'.a 1 (i + 1) D'.cap, D'.len - (i + 1), D'.cap - (i + 1)⟩ := by
         rw [hR]
         refine ⟨?_, TxR.none _ _, ?_⟩
         · have := TxR.sub hn11.keys (lo := i + 1) (hi := K'.len) (by omega) (by omega)
           rwa [List.take_of_length_le (by rw [List.length_drop]; omega)] at this
         · have := InR.sub hn11.kids (lo := i + 1) (hi := D'.len) (by omega) (by omega)
           rwa [List.take_of_length_le (by rw [List.length_drop]; omega)] at this
       have own1 := node_own hnL (by rw [hL]; show (n.keys.take i).length ≤ _; rw [List.length_take]; omega) (by rw [hL]; simp) (by rw [hL]; show (n.kids.take (i + 1)).length ≤ _; rw [List.length_take]; omega) (by rw [hL]; exact fun k hk => hkl k (List.mem_of_mem_take hk)) (by rw [hL]; simp)
       have eL : (.agg #[.bool false, .slice (cutA K'.a 1 0 K'.cap) i K'.cap, .slice none 0 0, .slice (cutA D'.a 1 0 D'.cap) (i + 1) D'.cap] : Value) = ndV (n.left i) ⟨cutA K'.a 1 0 K'.cap, i, K'.cap⟩ nil3 ⟨cutA D'.a 1 0 D'.cap, i + 1, D'.cap⟩ := by rw [hL]; rfl
       have eR : (.agg #[.bool false, .slice (cutA K'.a 1 (i + 1) K'.cap) (K'.len - (i + 1)) (K'.cap - (i + 1)), .slice none 0 0, .slice (cutA D'.a 1 (i + 1) D'.cap) (D'.len - (i + 1)) (D'.cap - (i + 1))] : Value) = ndV (n.right i) ⟨cutA K'.a 1 (i + 1) K'.cap, K'.len - (i + 1), K'.cap - (i + 1)⟩ nil3 ⟨cutA D'.a 1 (i + 1) D'.cap, D'.len - (i + 1), D'.cap - (i + 1)⟩ := by rw [hR]; rfl
       rw [eL, eR]
       refine own1.use ?_
       rintro _ w12 ⟨K1, V1, D1, BK1, BV1, BD1, rfl, hm12, hx12⟩
       have own2 := node_own (hnR.ext hx12) (by rw [hR]; show (n.keys.drop (i + 1)).length ≤ _; rw [List.length_drop]; omega) (by rw [hR]; simp) (by rw [hR]; show (n.kids.drop (i + 1)).length ≤ _; rw [List.length_drop]; omega) (by rw [hR]; exact fun k hk => hkl k (List.mem_of_mem_drop hk)) (by rw [hR]; simp)
       refine ⟨_, K1, V1, D1, rfl, Chg.of_ext hx12, own2.use ?_⟩
       rintro _ w13 ⟨K2, V2, D2, BK2, BV2, BD2, rfl, hm13, hx13⟩
       have hxU := hx12.trans hx13
       have hzz := hx12.size
       have hzu := hxT.size
       refine ⟨_, K2, V2, D2, rfl, Chg.of_ext hx13, ret2 (b1 := (n.left i).leaf) (b2 := (n.right i).leaf) (K1 := K1) (V1 := V1) (D1 := D1) (K2 := K2) (V2 := V2) (D2 := D2) ((hr1T.ext hxT).ext hxU) ((hr2T.ext hxT).ext hxU) rfl rfl (by omega) (fun q hq => hq) (Q := fun b1 K1 V1 D1 b2 K2 V2 D2 w' => SplitRes n w (.tuple #[.agg #[.bool b1, .slice K1.a K1.len K1.cap, .slice V1.a V1.len V1.cap, .slice D1.a D1.len D1.cap], .slice tk.a tk.len tk.cap, .agg #[.bool b2, .slice K2.a K2.len K2.cap, .slice V2.a V2.len V2.cap, .slice D2.a D2.len D2.cap], .bool true]) w') fun w14 hc14 => ?_⟩
       have hzd : w10.drew.heap.size = w10.heap.size := rfl
       refine ⟨K1, V1, D1, K2, V2, D2, tk, by rw [← hi]; rfl, ?_, ?_, ?_, ?_⟩
       · rw [← hi]; exact ((hm12.at.ext hx13).chg hc14 fun q hq e => by omega).weak fun q _ hq => by omega
       · rw [← hi]; exact (hm13.at.chg hc14 fun q hq e => by omega).weak fun q _ hq => by omega
       · rw [← hi, hgd]
         have hfr : ∀ q, ownB tk q → w9.heap.size ≤ q := hftk
         exact Tx.chg2 (Tx.ext (Tx.ext htk hxe) hxU) hc14 fun q hq e => by have := hfr q hq; omega
       · exact Ext.of_new (hXT.trans (hxT.trans hxU)) hc14 fun q hq => by omega
 · refine nxVar (vs := [.bool false, .slice none 0 0, .slice none 0 0, .slice none 0 0]) rfl fun w6 ho6 hx6 hz6' => ⟨hx6, ?_⟩
   refine (node_own (h.ext (hX5.trans hx6)) (by omega) (by omega) (by omega) hkl hvl2).use ?_
   rintro _ w7 ⟨K', V', D', BK, BV, BD, rfl, hm7, hx7⟩
   refine ⟨n.leaf, K', V', D', rfl, hx7, (node_half (h.ext (hX5.trans (hx6.trans hx7))) hs hn (most := most) hmb.2.1).use ?_⟩
   rintro _ w8 ⟨rfl, hx8⟩
   have ho8 := ho6.ext (hx7.trans hx8)
   refine ⟨_, rfl, hx8, ho8.storeOk rfl (nodePlain _ _ _ _), rfl, nxPut ho8 (us := [.bool n.leaf, .slice K'.a K'.len K'.cap, .slice V'.a V'.len V'.cap, .slice D'.a D'.len D'.cap]) rfl rfl fun w9 ho9 hc9 hz9 => ?_⟩
   have hz7 := hx7.size
   have hz8 := hx8.size
   have hz59 : w4.drew.heap.size = w4.heap.size := rfl
   obtain ⟨ob, hob⟩ : ∃ ob, ob = w4.drew.heap.size := ⟨_, rfl⟩
   rw [← hob] at ho9 hc9 ⊢
   have hxA := hx6.trans (hx7.trans hx8)
   have hm9 : NdMem w4.heap.size w9 n K' V' D' BK BV BD := ((hm7.ext hx8).chg hc9 fun q h1 _ _ e => by omega).low (by omega)
   have hXT : Ext w w9 := Ext.of_chg (hX5.trans hxA) hc9 (by omega)
   have hpT := (hp5.ext hxA).chg hc9 (by omega)
   have hr1T := (hr15.ext hxA).chg hc9 (by omega)
   have hr2T := (hr25.ext hxA).chg hc9 (by omega)
   have hci : halfIx (cellsOf n) most = cutIx n := by unfold cutIx; rw [hmost]
   rw [hci]
   obtain ⟨i, hi⟩ : ∃ i, i = cutIx n := ⟨_, rfl⟩
   rw [← hi] at hilt hmb hi1
   rw [← hi]
   obtain ⟨e0, e1, e2, e3⟩ := ndCells hpT
   obtain ⟨A, t, hA, hb2, hc, ht, _⟩ := TxR.at (h.ext hXT).keys hilt
   refine ⟨K, e1, A, hA, hb2, t, hc, (cloneTx (B := fun q => w.heap.size ≤ q) ht.1 (by have := hkl _ (List.getElem_mem hilt); omega) (fun q hq => Nat.le_trans hXT.size hq)).use ?_⟩
   rintro _ w10 ⟨tk, rfl, htk, hx10, hftk⟩
   have hxe := ext_drew w10
   obtain ⟨e0, e1, e2, e3⟩ := ndCells (hpT.ext hx10)
   have hxT := hx10.trans hxe
   obtain ⟨f0, f1, f2, f3⟩ := ndCells (ho9.ext hxT)
   have hn11 := hm9.at.ext hxT
   have lk' := TxR.len hn11.keys
   have lv' := TxR.len hn11.vals
   have ld' := InR.len hn11.kids
   have ck' := TxR.le (TxO.txR hm9.keys)
   have cv' := TxR.le (TxO.txR hm9.vals)
   have cd' : D'.len ≤ D'.cap := hn11.kids.2.1
   have hzw : w9.heap.size ≤ w10.heap.size := hx10.size
   have hgd : n.keys.getD i [] = n.keys[i] := getD_lt hilt
   refine ⟨tk, rfl, n.leaf, e0, fun hl => nx ⟨fun q => q = w1.heap.size, fun e => ?_, K', f1, ⟨by omega, by omega⟩, fun e => ?_, V', f2, ⟨by omega, ?_⟩, #[.bool true, .slice (cutA K'.a 1 0 K'.cap) i K'.cap, .slice (cutA V'.a 1 0 V'.cap) i V'.cap, .slice none 0 0], (fun w => by kernel_rfl), fun e => ?_, K', f1, ⟨by omega, by omega⟩, fun e => ?_, V', f2, ⟨by omega, ?_⟩, #[.bool true, .slice (cutA K'.a 1 i K'.cap) (K'.len - i) (K'.cap - i), .slice (cutA V'.a 1 i V'.cap) (V'.len - i) (V'.cap - i), .slice none 0 0], (fun w => by kernel_rfl), ?_⟩, fun hl => ?_⟩
   · rw [add_mk] at e; have e : ob = w1.heap.size := e; omega
   · rw [add_mk] at e; have e : ob = w1.heap.size := e; omega
   · have := hs.valsAt hl; omega
   · rw [add_mk] at e; have e : ob = w1.heap.size := e; omega
   · rw [add_mk] at e; have e : ob = w1.heap.size := e; omega
   · have := hs.valsAt hl; omega
   · have hvk := hs.valsAt hl
     have hL : n.left i = ⟨true, n.keys.take i, n.vals.take i, []⟩ := by unfold Nd.left; rw [hl]; rfl
     have hR : n.right i = ⟨true, n.keys.drop i, n.vals.drop i, []⟩ := by unfold Nd.right; rw [hl]; rfl
     have hnL : NdAt (fun q => w4.heap.size ≤ q) w10.drew (n.left i) ⟨cutA K'.a 1 0 K'.cap, i, K'.cap⟩ ⟨cutA V'.a 1 0 V'.cap, i, V'.cap⟩ nil3 := by
       rw [hL]
       refine ⟨?_, ?_, InR.none _ _⟩
       · have := TxR.sub hn11.keys (lo := 0) (hi := i) (by omega) (by omega)
         simpa using this
       · have := TxR.sub hn11.vals (lo := 0) (hi := i) (by omega) (by omega)
         simpa using this
     have hnR : NdAt (fun q => w4.heap.size ≤ q) w10.drew (n.right i) ⟨cutA K'.a 1 i K'.cap, K'.len - i, K'.cap - i⟩ ⟨cutA V'.a 1 i V'.cap, V'.len - i, V'.cap - i⟩ nil3 := by
       rw [hR]
       refine ⟨?_, ?_, InR.none _ _⟩
       · have := TxR.sub hn11.keys (lo := i) (hi := K'.len) (by omega) (by omega)
         rwa [List.take_of_length_le (by rw [List.length_drop]; omega)] at this
       · have := TxR.sub hn11.vals (lo := i) (hi := V'.len) (by omega) (by omega)
         rwa [List.take_of_length_le (by rw [List.length_drop]; omega)] at this
     have own1 := node_own hnL (by rw [hL]; show (n.keys.take i).length ≤ _; rw [List.length_take]; omega) (by rw [hL]; show (n.vals.take i).length ≤ _; rw [List.length_take]; omega) (by rw [hL]; simp) (by rw [hL]; exact fun k hk => hkl k (List.mem_of_mem_take hk)) (by rw [hL]; exact fun k hk => hvl2 k (List.mem_of_mem_take hk))
     have eL : (.agg #[.bool true, .slice (cutA K'.a 1 0 K'.cap) i K'.cap, .slice (cutA V'.a 1 0 V'.cap) i V'.cap, .slice none 0 0] : Value) = ndV (n.left i) ⟨cutA K'.a 1 0 K'.cap, i, K'.cap⟩ ⟨cutA V'.a 1 0 V'.cap, i, V'.cap⟩ nil3 := by rw [hL]; rfl
     have eR : (.agg #[.bool true, .slice (cutA K'.a 1 i K'.cap) (K'.len - i) (K'.cap - i), .slice (cutA V'.a 1 i V'.cap) (V'.len - i) (V'.cap - i), .slice none 0 0] : Value) = ndV (n.right i) ⟨cutA K'.a 1 i K'.cap, K'.len - i, K'.cap - i⟩ ⟨cutA V'.a 1 i V'.cap, V'.len - i, V'.cap - i⟩ nil3 := by rw [hR]; rfl
     rw [eL, eR]
     refine own1.use ?_
     rintro _ w12 ⟨K1, V1, D1, BK1, BV1, BD1, rfl, hm12, hx12⟩
     have own2 := node_own (hnR.ext hx12) (by rw [hR]; show (n.keys.drop i).length ≤ _; rw [List.length_drop]; omega) (by rw [hR]; show (n.vals.drop i).length ≤ _; rw [List.length_drop]; omega) (by rw [hR]; simp) (by rw [hR]; exact fun k hk => hkl k (List.mem_of_mem_drop hk)) (by rw [hR]; exact fun k hk => hvl2 k (List.mem_of_mem_drop hk))
     refine ⟨_, K1, V1, D1, rfl, Chg.of_ext hx12, own2.use ?_⟩
     rintro _ w13 ⟨K2, V2, D2, BK2, BV2, BD2, rfl, hm13, hx13⟩
     have hxU := hx12.trans hx13
     have hzz := hx12.size
     have hzu := hxT.size
     refine ⟨_, K2, V2, D2, rfl, Chg.of_ext hx13, ret2 (b1 := (n.left i).leaf) (b2 := (n.right i).leaf) (K1 := K1) (V1 := V1) (D1 := D1) (K2 := K2) (V2 := V2) (D2 := D2) ((hr1T.ext hxT).ext hxU) ((hr2T.ext hxT).ext hxU) rfl rfl (by omega) (fun q hq => hq) (Q := fun b1 K1 V1 D1 b2 K2 V2 D2 w' => SplitRes n w (.tuple #[.agg #[.bool b1, .slice K1.a K1.len K1.cap, .slice V1.a V1.len V1.cap, .slice D1.a D1.len D1.cap], .slice tk.a tk.len tk.cap, .agg #[.bool b2, .slice K2.a K2.len K2.cap, .slice V2.a V2.len V2.cap, .slice D2.a D2.len D2.cap], .bool true]) w') fun w14 hc14 => ?_⟩
     have hzd : w10.drew.heap.size = w10.heap.size := rfl
     refine ⟨K1, V1, D1, K2, V2, D2, tk, by rw [← hi]; rfl, ?_, ?_, ?_, ?_⟩
     · rw [← hi]; exact ((hm12.at.ext hx13).chg hc14 fun q hq e => by omega).weak fun q _ hq => by omega
     · rw [← hi]; exact (hm13.at.chg hc14 fun q hq e => by omega).weak fun q _ hq => by omega
     · rw [← hi, hgd]
       have hfr : ∀ q, ownB tk q → w9.heap.size ≤ q := hftk
       exact Tx.chg2 (Tx.ext (Tx.ext htk hxe) hxU) hc14 fun q hq e => by have := hfr q hq; omega
     · exact Ext.of_new (hXT.trans (hxT.trans hxU)) hc14 fun q hq => by omega
   · have hvk := hs.kidsAt hl
     have hi2' : i ≤ n.keys.length - 2 ∧ 1 ≤ n.keys.length - 2 := by rw [hl, ← hi] at hi2; simpa using hi2
     have ewr : IntKind.wrap .i64 ((i : Int) + 1) = ((i + 1 : Nat) : Int) := by rw [wrapi (by omega) (by omega)]; rfl
     rw [ewr]
     refine nx ⟨fun q => q = w1.heap.size, fun e => ?_, K', f1, ⟨by omega, by omega⟩, fun e => ?_, D', f3, ⟨by omega, by omega⟩, #[.bool false, .slice (cutA K'.a 1 0 K'.cap) i K'.cap, .slice none 0 0, .slice (cutA D'.a 1 0 D'.cap) (i + 1) D'.cap], (fun w => by kernel_rfl), fun e => ?_, K', f1, ⟨by omega, by omega⟩, fun e => ?_, D', f3, ⟨by omega, by omega⟩, #[.bool false, .slice (cutA K'.a 1 (i + 1) K'.cap) (K'.len - (i + 1)) (K'.cap - (i + 1)), .slice none 0 0, .slice (cutA D'.a 1 (i + 1) D'.cap) (D'.len - (i + 1)) (D'.cap - (i + 1))], (fun w => by kernel_rfl), ?_⟩
     · rw [add_mk] at e; have e : ob = w1.heap.size := e; omega
     · rw [add_mk] at e; have e : ob = w1.heap.size := e; omega
     · rw [add_mk] at e; have e : ob = w1.heap.size := e; omega
     · rw [add_mk] at e; have e : ob = w1.heap.size := e; omega
     have hL : n.left i = ⟨false, n.keys.take i, [], n.kids.take (i + 1)⟩ := by unfold Nd.left; rw [hl]; rfl
     have hR : n.right i = ⟨false, n.keys.drop (i + 1), [], n.kids.drop (i + 1)⟩ := by unfold Nd.right; rw [hl]; rfl
     have hnL : NdAt (fun q => w4.heap.size ≤ q) w10.drew (n.left i) ⟨cutA K'.a 1 0 K'.cap, i, K'.cap⟩ nil3 ⟨cutA D'.a 1 0 D'.cap, i + 1, D'.cap⟩ := by
       rw [hL]
       refine ⟨?_, TxR.none _ _, ?_⟩
       · have := TxR.sub hn11.keys (lo := 0) (hi := i) (by omega) (by omega)
         simpa using this
       · have := InR.sub hn11.kids (lo := 0) (hi := i + 1) (by omega) (by omega)
         simpa using this
     have hnR : NdAt (fun q => w4.heap.size ≤ q) w10.drew (n.right i) ⟨cutA K'.a 1 (i + 1) K'.cap, K'.len - (i + 1), K'.cap - (i + 1)⟩ nil3 ⟨cutA D'.a 1 (i + 1) D'.cap, D'.len - (i + 1), D'.cap - (i + 1)⟩ := by
       rw [hR]
       refine ⟨?_, TxR.none _ _, ?_⟩
       · have := TxR.sub hn11.keys (lo := i + 1) (hi := K'.len) (by omega) (by omega)
         rwa [List.take_of_length_le (by rw [List.length_drop]; omega)] at this
       · have := InR.sub hn11.kids (lo := i + 1) (hi := D'.len) (by omega) (by omega)
         rwa [List.take_of_length_le (by rw [List.length_drop]; omega)] at this
     have own1 := node_own hnL (by rw [hL]; show (n.keys.take i).length ≤ _; rw [List.length_take]; omega) (by rw [hL]; simp) (by rw [hL]; show (n.kids.take (i + 1)).length ≤ _; rw [List.length_take]; omega) (by rw [hL]; exact fun k hk => hkl k (List.mem_of_mem_take hk)) (by rw [hL]; simp)
     have eL : (.agg #[.bool false, .slice (cutA K'.a 1 0 K'.cap) i K'.cap, .slice none 0 0, .slice (cutA D'.a 1 0 D'.cap) (i + 1) D'.cap] : Value) = ndV (n.left i) ⟨cutA K'.a 1 0 K'.cap, i, K'.cap⟩ nil3 ⟨cutA D'.a 1 0 D'.cap, i + 1, D'.cap⟩ := by rw [hL]; rfl
     have eR : (.agg #[.bool false, .slice (cutA K'.a 1 (i + 1) K'.cap) (K'.len - (i + 1)) (K'.cap - (i + 1)), .slice none 0 0, .slice (cutA D'.a 1 (i + 1) D'.cap) (D'.len - (i + 1)) (D'.cap - (i + 1))] : Value) = ndV (n.right i) ⟨cutA K'.a 1 (i + 1) K'.cap, K'.len - (i + 1), K'.cap - (i + 1)⟩ nil3 ⟨cutA D'.a 1 (i + 1) D'.cap, D'.len - (i + 1), D'.cap - (i + 1)⟩ := by rw [hR]; rfl
     rw [eL, eR]
     refine own1.use ?_
     rintro _ w12 ⟨K1, V1, D1, BK1, BV1, BD1, rfl, hm12, hx12⟩
     have own2 := node_own (hnR.ext hx12) (by rw [hR]; show (n.keys.drop (i + 1)).length ≤ _; rw [List.length_drop]; omega) (by rw [hR]; simp) (by rw [hR]; show (n.kids.drop (i + 1)).length ≤ _; rw [List.length_drop]; omega) (by rw [hR]; exact fun k hk => hkl k (List.mem_of_mem_drop hk)) (by rw [hR]; simp)
     refine ⟨_, K1, V1, D1, rfl, Chg.of_ext hx12, own2.use ?_⟩
     rintro _ w13 ⟨K2, V2, D2, BK2, BV2, BD2, rfl, hm13, hx13⟩
     have hxU := hx12.trans hx13
     have hzz := hx12.size
     have hzu := hxT.size
     refine ⟨_, K2, V2, D2, rfl, Chg.of_ext hx13, ret2 (b1 := (n.left i).leaf) (b2 := (n.right i).leaf) (K1 := K1) (V1 := V1) (D1 := D1) (K2 := K2) (V2 := V2) (D2 := D2) ((hr1T.ext hxT).ext hxU) ((hr2T.ext hxT).ext hxU) rfl rfl (by omega) (fun q hq => hq) (Q := fun b1 K1 V1 D1 b2 K2 V2 D2 w' => SplitRes n w (.tuple #[.agg #[.bool b1, .slice K1.a K1.len K1.cap, .slice V1.a V1.len V1.cap, .slice D1.a D1.len D1.cap], .slice tk.a tk.len tk.cap, .agg #[.bool b2, .slice K2.a K2.len K2.cap, .slice V2.a V2.len V2.cap, .slice D2.a D2.len D2.cap], .bool true]) w') fun w14 hc14 => ?_⟩
     have hzd : w10.drew.heap.size = w10.heap.size := rfl
     refine ⟨K1, V1, D1, K2, V2, D2, tk, by rw [← hi]; rfl, ?_, ?_, ?_, ?_⟩
     · rw [← hi]; exact ((hm12.at.ext hx13).chg hc14 fun q hq e => by omega).weak fun q _ hq => by omega
     · rw [← hi]; exact (hm13.at.chg hc14 fun q hq e => by omega).weak fun q _ hq => by omega
     · rw [← hi, hgd]
       have hfr : ∀ q, ownB tk q → w9.heap.size ≤ q := hftk
       exact Tx.chg2 (Tx.ext (Tx.ext htk hxe) hxU) hc14 fun q hq e => by have := hfr q hq; omega
     · exact Ext.of_new (hXT.trans (hxT.trans hxU)) hc14 fun q hq => by omega
end Go.Proofs.YtplieiecebljmaaGreat
namespace Go.Proofs.YtplieiecebljmaaGreat
open Go Gx
theorem catTx {B C : Nat → Prop} {w : World} {s x : Sl} {ls xs : List Key} (ho : TxO B w s ls) (hx : TxR C w x xs) (hd : ∀ q, C q → ¬ ownB s q) (hn : ls.length ≤ 100000) (hm : xs.length ≤ 100000) :
   ∃ (s' : Sl) (w' : World), Sem.run Tryz.prog (Builtin.append_ #[Ty.Sl_Sl_uint8, Ty.Sl_Sl_uint8] Ty.Sl_Sl_uint8 #[.slice s.a s.len s.cap, .slice x.a x.len x.cap]) w = .ok (.slice s'.a s'.len s'.cap) w' ∧ TxR (fun q => B q ∨ C q ∨ w.heap.size ≤ q) w' s' (ls ++ xs) ∧ Chg (ownB s) w w' := by
 have lx := TxR.len hx
 obtain ⟨ts, h1, h2, h3, h4⟩ := ho
 obtain ⟨us, g1, g2, g3, g4, g5⟩ := hx
 have ls' : s.len = ls.length := by have := h2.1; rw [List.length_map] at this; omega
 obtain ⟨s', w', e1, e2, e3, e4, e5⟩ := appTx.append (oT := Ty.Sl_Sl_uint8) g2 h2 (slv_plain us) (by omega)
 refine ⟨s', w', e1, ⟨ts ++ us, by simp [h1, g1], ?_, e2.2.1, ?_, fun i i1 i2 => ?_⟩, e4⟩
 · rw [List.map_append]; exact e2.src
 · intro k hk
   refine ⟨?_, e2.lt k hk⟩
   rcases e5 k hk with h | h
   · exact .inl (h3 k h).1
   · exact .inr (.inr h)
 · rcases Nat.lt_or_ge i ts.length with h | h
   · have hi2 : i < ls.length := by omega
     rw [List.getElem_append_left h, List.getElem_append_left hi2]
     obtain ⟨a, b⟩ := h4 i h hi2
     exact Tx.weak (Tx.chg2 a e4 b) fun k _ hk => .inl hk
   · have hj : i - ts.length < us.length := by rw [List.length_append] at i1; omega
     have hj2 : i - ls.length < xs.length := by omega
     rw [List.getElem_append_right h, List.getElem_append_right (by omega)]
     have e : i - ls.length = i - ts.length := by omega
     have a := g5 (i - ts.length) hj (by omega)
     simp only [e]
     exact Tx.weak (Tx.chg2 a e4 fun k hk => hd k (a.2.2 k hk).1) fun k _ hk => .inr (.inl hk)
theorem catInt {B C : Nat → Prop} {w : World} {s x : Sl} {ds es : List Nat} (ho : InO B w s ds) (hx : InR C w x es) (hn : ds.length ≤ 100000) (hm : es.length ≤ 100000) :
   ∃ (s' : Sl) (w' : World), Sem.run Tryz.prog (Builtin.append_ #[Ty.Sl_int, Ty.Sl_int] Ty.Sl_int #[.slice s.a s.len s.cap, .slice x.a x.len x.cap]) w = .ok (.slice s'.a s'.len s'.cap) w' ∧ InR (fun q => B q ∨ C q ∨ w.heap.size ≤ q) w' s' (ds ++ es) ∧ Chg (ownB s) w w' := by
 have lx := InR.len hx
 obtain ⟨h1, h2⟩ := ho
 have ls' : s.len = ds.length := by have := h1.1; rw [intsV_length] at this; omega
 obtain ⟨s', w', e1, e2, e3, e4, e5⟩ := appInt.append (oT := Ty.Sl_int) hx.1 h1 (intsV_plain es) (by omega)
 refine ⟨s', w', e1, ⟨?_, e2.2.1, ?_⟩, e4⟩
 · have : intsV ds ++ intsV es = intsV (ds ++ es) := by simp [intsV]
   rw [this] at e2; exact e2.src
 · intro k hk
   refine ⟨?_, e2.lt k hk⟩
   rcases e5 k hk with h | h
   · exact .inl (h2 k h).1
   · exact .inr (.inr h)
def MergeTail (pa oa ob rr : Nat) (key : Sl) (w56 : World) (Q : Value → World → Prop) : Prop :=
 Jn ( fun k57 : World → Prop => ∃ b58 : Bool, w56.cell? ⟨pa, 0, none⟩ = some (.bool b58) ∧ ( (!b58) = true → Nx (w56.drew) fun w59 => ∃ W60 : Nat → Prop, ¬ W60 (Addr.add ⟨oa, 0, none⟩ 1).block ∧ ∃ s61 : Sl, w59.cell? (Addr.add ⟨oa, 0, none⟩ 1) = some (.slice s61.a s61.len s61.cap) ∧ Calls Tryz.prog F.slices_Clone_Sl_byte_byte #[.slice key.a key.len key.cap] w59 fun e63 w62 => ∃ s64 : Sl, e63 = .returned (.slice s64.a s64.len s64.cap) ∧ Chg W60 w59 w62 ∧ Nx (w62.alloc (.cells #[.slice s64.a s64.len s64.cap] Ty.Sl_uint8)) fun w65 => Chg W60 w62 w65 ∧ ∃ s66 : Sl, ∃ w67 : World, Sem.run Tryz.prog ( Builtin.append_ #[Ty.Sl_Sl_uint8, Ty.Sl_Sl_uint8] Ty.Sl_Sl_uint8 #[.slice s61.a s61.len s61.cap, .slice (some ⟨w62.heap.size, 0, none⟩) 1 1]) w65 = .ok (.slice s66.a s66.len s66.cap) w67 ∧ (∃ u : Value, w67.cell? (Addr.add ⟨oa, 0, none⟩ 1) = some u) ∧ w67.frozen? (Addr.add ⟨oa, 0, none⟩ 1) = false ∧ Nx (w67.setCell (Addr.add ⟨oa, 0, none⟩ 1) (.slice s66.a s66.len s66.cap)) fun w68 => k57 w68) ∧ ((!b58) = false → k57 w56)) ( fun  (w69 : World) => ∃ s70 : Sl, w69.cell? (Addr.add ⟨oa, 0, none⟩ 1) = some (.slice s70.a s70.len s70.cap) ∧ ∃ s71 : Sl, w69.cell? (Addr.add ⟨ob, 0, none⟩ 1) = some (.slice s71.a s71.len s71.cap) ∧ ∃ s72 : Sl, ∃ w73 : World, Sem.run Tryz.prog ( Builtin.append_ #[Ty.Sl_Sl_uint8, Ty.Sl_Sl_uint8] Ty.Sl_Sl_uint8 #[.slice s70.a s70.len s70.cap, .slice s71.a s71.len s71.cap]) w69 = .ok (.slice s72.a s72.len s72.cap) w73 ∧ (∃ u : Value, w73.cell? (Addr.add ⟨oa, 0, none⟩ 1) = some u) ∧ w73.frozen? (Addr.add ⟨oa, 0, none⟩ 1) = false ∧ Nx (w73.setCell (Addr.add ⟨oa, 0, none⟩ 1) (.slice s72.a s72.len s72.cap)) fun w74 => ∃ s75 : Sl, w74.cell? (Addr.add ⟨oa, 0, none⟩ 2) = some (.slice s75.a s75.len s75.cap) ∧ ∃ s76 : Sl, w74.cell? (Addr.add ⟨ob, 0, none⟩ 2) = some (.slice s76.a s76.len s76.cap) ∧ ∃ s77 : Sl, ∃ w78 : World, Sem.run Tryz.prog ( Builtin.append_ #[Ty.Sl_Sl_uint8, Ty.Sl_Sl_uint8] Ty.Sl_Sl_uint8 #[.slice s75.a s75.len s75.cap, .slice s76.a s76.len s76.cap]) w74 = .ok (.slice s77.a s77.len s77.cap) w78 ∧ (∃ u : Value, w78.cell? (Addr.add ⟨oa, 0, none⟩ 2) = some u) ∧ w78.frozen? (Addr.add ⟨oa, 0, none⟩ 2) = false ∧ Nx (w78.setCell (Addr.add ⟨oa, 0, none⟩ 2) (.slice s77.a s77.len s77.cap)) fun w79 => ∃ s80 : Sl, w79.cell? (Addr.add ⟨oa, 0, none⟩ 3) = some (.slice s80.a s80.len s80.cap) ∧ ∃ s81 : Sl, w79.cell? (Addr.add ⟨ob, 0, none⟩ 3) = some (.slice s81.a s81.len s81.cap) ∧ ∃ s82 : Sl, ∃ w83 : World, Sem.run Tryz.prog ( Builtin.append_ #[Ty.Sl_int, Ty.Sl_int] Ty.Sl_int #[.slice s80.a s80.len s80.cap, .slice s81.a s81.len s81.cap]) w79 = .ok (.slice s82.a s82.len s82.cap) w83 ∧ (∃ u : Value, w83.cell? (Addr.add ⟨oa, 0, none⟩ 3) = some u) ∧ w83.frozen? (Addr.add ⟨oa, 0, none⟩ 3) = false ∧ Nx (w83.setCell (Addr.add ⟨oa, 0, none⟩ 3) (.slice s82.a s82.len s82.cap)) fun w84 => ∃ b85 : Bool, w84.cell? ⟨oa, 0, none⟩ = some (.bool b85) ∧ ∃ s86 : Sl, w84.cell? (Addr.add ⟨oa, 0, none⟩ 1) = some (.slice s86.a s86.len s86.cap) ∧ ∃ s87 : Sl, w84.cell? (Addr.add ⟨oa, 0, none⟩ 2) = some (.slice s87.a s87.len s87.cap) ∧ ∃ s88 : Sl, w84.cell? (Addr.add ⟨oa, 0, none⟩ 3) = some (.slice s88.a s88.len s88.cap) ∧ Calls Tryz.prog F.node_sound #[.agg #[.bool b85, .slice s86.a s86.len s86.cap, .slice s87.a s87.len s87.cap, .slice s88.a s88.len s88.cap]] w84 fun e90 w89 => ∃ b91 : Bool, e90 = .returned (.bool b91) ∧ ( (!b91) = true → StoreOk w89 ⟨rr, 0, none⟩ [.bool false, .slice none 0 0, .slice none 0 0, .slice none 0 0] ∧ (4 : Nat) = 4 ∧ Nx ( setCells w89 ⟨rr, 0, none⟩ 0 [.bool false, .slice none 0 0, .slice none 0 0, .slice none 0 0]) fun w92 => ∃ b93 : Bool, w92.cell? ⟨rr, 0, none⟩ = some (.bool b93) ∧ ∃ s94 : Sl, w92.cell? (Addr.add ⟨rr, 0, none⟩ 1) = some (.slice s94.a s94.len s94.cap) ∧ ∃ s95 : Sl, w92.cell? (Addr.add ⟨rr, 0, none⟩ 2) = some (.slice s95.a s95.len s95.cap) ∧ ∃ s96 : Sl, w92.cell? (Addr.add ⟨rr, 0, none⟩ 3) = some (.slice s96.a s96.len s96.cap) ∧ Q ( .tuple #[.agg #[.bool b93, .slice s94.a s94.len s94.cap, .slice s95.a s95.len s95.cap, .slice s96.a s96.len s96.cap], .bool false]) w92) ∧ ( (!b91) = false → ∃ b97 : Bool, w89.cell? ⟨oa, 0, none⟩ = some (.bool b97) ∧ ∃ s98 : Sl, w89.cell? (Addr.add ⟨oa, 0, none⟩ 1) = some (.slice s98.a s98.len s98.cap) ∧ ∃ s99 : Sl, w89.cell? (Addr.add ⟨oa, 0, none⟩ 2) = some (.slice s99.a s99.len s99.cap) ∧ ∃ s100 : Sl, w89.cell? (Addr.add ⟨oa, 0, none⟩ 3) = some (.slice s100.a s100.len s100.cap) ∧ StoreOk w89 ⟨rr, 0, none⟩ [.bool b97, .slice s98.a s98.len s98.cap, .slice s99.a s99.len s99.cap, .slice s100.a s100.len s100.cap] ∧ (4 : Nat) = 4 ∧ Nx ( setCells w89 ⟨rr, 0, none⟩ 0 [.bool b97, .slice s98.a s98.len s98.cap, .slice s99.a s99.len s99.cap, .slice s100.a s100.len s100.cap]) fun w101 => ∃ b102 : Bool, w101.cell? ⟨rr, 0, none⟩ = some (.bool b102) ∧ ∃ s103 : Sl, w101.cell? (Addr.add ⟨rr, 0, none⟩ 1) = some (.slice s103.a s103.len s103.cap) ∧ ∃ s104 : Sl, w101.cell? (Addr.add ⟨rr, 0, none⟩ 2) = some (.slice s104.a s104.len s104.cap) ∧ ∃ s105 : Sl, w101.cell? (Addr.add ⟨rr, 0, none⟩ 3) = some (.slice s105.a s105.len s105.cap) ∧ Q ( .tuple #[.agg #[.bool b102, .slice s103.a s103.len s103.cap, .slice s104.a s104.len s104.cap, .slice s105.a s105.len s105.cap], .bool true]) w101) )
theorem mergeTail {lo pa oa ob rr : Nat} {key Ka Va Da Kb Vb Db : Sl} {w wT : World} {a b : Nd} {s : Key} {BK BV BD C : Nat → Prop} {vsr : List Value} (hpa : wT.cell? ⟨pa, 0, none⟩ = some (.bool a.leaf))
   (hA : Var wT oa [.bool a.leaf, .slice Ka.a Ka.len Ka.cap, .slice Va.a Va.len Va.cap, .slice Da.a Da.len Da.cap] Ty.api_Node) (hB : Var wT ob [.bool b.leaf, .slice Kb.a Kb.len Kb.cap, .slice Vb.a Vb.len Vb.cap, .slice Db.a Db.len Db.cap] Ty.api_Node)
   (hma : NdMem lo wT a Ka Va Da BK BV BD) (hmb : NdAt C wT b Kb Vb Db) (hC : ∀ q, C q → lo ≤ q ∧ q < wT.heap.size ∧ q ≠ oa ∧ q ≠ ob ∧ ¬ BK q ∧ ¬ BV q ∧ ¬ BD q) (hoa : ∀ q, BK q ∨ BV q ∨ BD q → q ≠ oa ∧ q ≠ ob) (la : lo ≤ oa) (lb : lo ≤ ob) (hab : oa ≠ ob)
   (hr : Var wT rr vsr Ty.api_Node) (hrl : vsr.length = 4) (hrr : rr < lo) (hlo : w.heap.size ≤ rr) (hk : Src 1 wT key (u8s s)) (hsl : s.length ≤ 1000) (hX : Ext w wT) (hs : SoundN (mergeN a s b)) (hl : a.leaf = b.leaf) (sa : SoundN a) (sb : SoundN b)
   (n1 : a.keys.length ≤ 10000) (n2 : b.keys.length ≤ 10000) : MergeTail pa oa ob rr key wT (NdRes (mergeN a s b) w) := by
 unfold MergeTail
 have hal := hA.lt
 have hbl := hB.lt
 have rv : ∀ {n : Nd}, SoundN n → n.keys.length ≤ 10000 → n.vals.length ≤ 10000 ∧ n.kids.length ≤ 10001 := fun {n} h1 h2 => by
   rcases h1 with h1 | h1
   · rw [h1.len, h1.kids]; exact ⟨h2, Nat.zero_le _⟩
   · rw [h1.len, h1.vals]; exact ⟨Nat.zero_le _, by omega⟩
 obtain ⟨va, da⟩ := rv sa n1
 obtain ⟨vb, db⟩ := rv sb n2
 have hown : NdOwn lo wT oa a Ka Va Da BK BV BD := ⟨hA, hma.keys, hma.vals, hma.kids, fun q hq => ⟨(hma.bk q hq).1, (hma.bk q hq).2.1, (hoa q (.inl hq)).1, (hma.bk q hq).2.2⟩, fun q hq => ⟨(hma.bv q hq).1, (hma.bv q hq).2.1, (hoa q (.inr (.inl hq))).1, (hma.bv q hq).2.2⟩, fun q hq => ⟨(hma.bd q hq).1, (hma.bd q hq).2, (hoa q (.inr (.inr hq))).1⟩, la⟩
 refine Jn0 (fun w' => ∃ (K : Sl) (BK' : Nat → Prop), NdOwn lo w' oa ⟨a.leaf, if a.leaf then a.keys else a.keys ++ [s], a.vals, a.kids⟩ K Va Da BK' BV BD ∧ Chg (fun q => q = oa ∨ BK q) wT w' ∧ (∀ q, BK' q → BK q ∨ wT.heap.size ≤ q)) (fun q hq => ⟨_, hpa, fun hb => ?_, fun hb => hq _ ⟨Ka, BK, ?_, .refl _ _, fun q h => .inl h⟩⟩) ?_
 · have hb : a.leaf = false := by simpa using hb
   refine ownK hown hk (by omega) (by omega) fun w' K' BK' h1 h2 h3 => hq _ ⟨K', BK', ?_, h2, h3⟩
   rw [if_neg (by rw [hb]; simp)]
   exact h1
 · have hb : a.leaf = true := by simpa using hb
   rw [if_pos hb]
   exact hown
 rintro w1 ⟨K1, BK1, h1, hc1, hB1⟩
 have hz1 := hc1.size
 have hb1 := hB.chg hc1 (by
   rintro (h | h)
   · exact hab h.symm
   · exact (hoa _ (.inl h)).2 rfl)
 have hmb1 := hmb.chg hc1 fun q hq h => by
   have := hC q hq
   rcases h with h | h
   · exact this.2.2.1 h
   · exact this.2.2.2.2.1 h
 have hr1 := hr.chg hc1 (by
   rintro (h | h)
   · omega
   · have := (hma.bk _ h).1; omega)
 have hX1 : Ext w w1 := Ext.of_new hX hc1 fun q hq => by
   rcases hq with h | h
   · omega
   · have := (hma.bk _ h).1; omega
 obtain ⟨keysL, hkeysL⟩ : ∃ l, l = (if a.leaf then a.keys else a.keys ++ [s]) := ⟨_, rfl⟩
 rw [← hkeysL] at h1
 have hkeysN : keysL.length ≤ 10001 := by
   rw [hkeysL]
   split
   · omega
   · rw [List.length_append]; simp; omega
 obtain ⟨c0, c1, c2, c3⟩ := ndCells h1.v
 obtain ⟨d0, d1, d2, d3⟩ := ndCells hb1
 have oK : ∀ q, ownB K1 q → BK1 q := fun k hk => by obtain ⟨ts, _, _, h3, _⟩ := h1.keys; exact (h3 k hk).1
 have oV : ∀ q, ownB Va q → BV q := fun k hk => by obtain ⟨ts, _, _, h3, _⟩ := h1.vals; exact (h3 k hk).1
 have oD : ∀ q, ownB Da q → BD q := fun k hk => (h1.kids.2 k hk).1
 have cK : ∀ q, C q → ¬ ownB K1 q := fun q hq h => by
   rcases hB1 q (oK q h) with h2 | h2
   · exact (hC q hq).2.2.2.2.1 h2
   · have := (hC q hq).2.1; omega
 -- the keys
 obtain ⟨S1, w2, e1, e2, e3⟩ := catTx h1.keys hmb1.keys cK (by show keysL.length ≤ _; omega) (by omega)
 have hA2 := h1.v.chg e3 fun h => (h1.bk _ (oK _ h)).2.2.1 rfl
 obtain ⟨o1, o2⟩ := setOk hA2 (i := 1) (by simp)
 refine ⟨K1, c1, Kb, d1, S1, w2, e1, ?_⟩
 rw [add_mk, add_mk]
 refine ⟨o1, o2, nx ?_⟩
 obtain ⟨w3, hw3⟩ : ∃ w3, w3 = w2.setCell ⟨oa, 0 + 1, none⟩ (.slice S1.a S1.len S1.cap) := ⟨_, rfl⟩
 rw [← hw3]
 have k3 : Chg (fun q => q = oa) w2 w3 := by rw [hw3]; exact chgSet _ _ _ _
 have hA3 : Var w3 oa [.bool a.leaf, .slice S1.a S1.len S1.cap, .slice Va.a Va.len Va.cap, .slice Da.a Da.len Da.cap] Ty.api_Node := by rw [hw3]; exact varSet hA2 _
 have c13 : Chg (fun q => q = oa ∨ ownB K1 q) w1 w3 := (e3.mono fun q _ h => .inr h).trans (k3.mono fun q _ h => .inl h)
 have hb3 := hb1.chg c13 (by
   rintro (h | h)
   · exact hab h.symm
   · rcases hB1 _ (oK _ h) with h2 | h2
     · exact (hoa _ (.inl h2)).2 rfl
     · omega)
 have hmb3 := hmb1.chg c13 fun q hq h => by
   rcases h with h | h
   · exact (hC q hq).2.2.1 h
   · exact cK q hq h
 have hV3 := TxO.chg h1.vals c13 fun q hq h => by
   rcases h with h | h
   · exact (h1.bv q hq).2.2.1 h
   · exact (h1.bk q (oK q h)).2.2.2.1 hq
 have hD3 := InO.chg h1.kids c13 fun q hq h => by
   rcases h with h | h
   · exact (h1.bd q hq).2.2 h
   · exact (h1.bk q (oK q h)).2.2.2.2 hq
 have hr3 := hr1.chg c13 (by
   rintro (h | h)
   · omega
   · have := (h1.bk _ (oK _ h)).1; omega)
 have hX3 : Ext w w3 := Ext.of_new hX1 c13 fun q hq => by
   rcases hq with h | h
   · omega
   · have := (h1.bk _ (oK _ h)).1; omega
 have hK3 : TxR (fun q => (BK1 q ∨ C q ∨ w1.heap.size ≤ q) ∧ q ≠ oa) w3 S1 (keysL ++ b.keys) := by
   have e2' : TxR (fun q => (BK1 q ∨ C q ∨ w1.heap.size ≤ q) ∧ q ≠ oa) w2 S1 (keysL ++ b.keys) := TxR.weak e2 fun q _ hq => ⟨hq, by
     rcases hq with h | h | h
     · exact (h1.bk _ h).2.2.1
     · exact (hC _ h).2.2.1
     · omega⟩
   exact TxR.chg e2' k3 fun q hq h => hq.2 h
 obtain ⟨c0, c1, c2, c3⟩ := ndCells hA3
 obtain ⟨d0, d1, d2, d3⟩ := ndCells hb3
 have hz3 := c13.size
 -- the values
 obtain ⟨S2, w4, e1, e2, e3⟩ := catTx hV3 hmb3.vals (fun q hq h => (hC q hq).2.2.2.2.2.1 (oV q h)) (by show a.vals.length ≤ _; omega) (by omega)
 have hA4 := hA3.chg e3 fun h => (h1.bv _ (oV _ h)).2.2.1 rfl
 obtain ⟨o1, o2⟩ := setOk hA4 (i := 2) (by simp)
 rw [add_mk] at c2 d2
 refine ⟨Va, c2, Vb, d2, S2, w4, e1, ?_⟩
 rw [add_mk, add_mk]
 refine ⟨o1, o2, nx ?_⟩
 obtain ⟨w5, hw5⟩ : ∃ w5, w5 = w4.setCell ⟨oa, 0 + 2, none⟩ (.slice S2.a S2.len S2.cap) := ⟨_, rfl⟩
 rw [← hw5]
 have k5 : Chg (fun q => q = oa) w4 w5 := by rw [hw5]; exact chgSet _ _ _ _
 have hA5 : Var w5 oa [.bool a.leaf, .slice S1.a S1.len S1.cap, .slice S2.a S2.len S2.cap, .slice Da.a Da.len Da.cap] Ty.api_Node := by rw [hw5]; exact varSet hA4 _
 have c35 : Chg (fun q => q = oa ∨ BV q) w3 w5 := (e3.mono fun q _ h => .inr (oV q h)).trans (k5.mono fun q _ h => .inl h)
 have hb5 := hb3.chg c35 (by
   rintro (h | h)
   · exact hab h.symm
   · exact (hoa _ (.inr (.inl h))).2 rfl)
 have hmb5 := hmb3.chg c35 fun q hq h => by
   rcases h with h | h
   · exact (hC q hq).2.2.1 h
   · exact (hC q hq).2.2.2.2.2.1 h
 have hK5 := TxR.chg hK3 c35 fun q hq h => by
   rcases h with h | h
   · exact hq.2 h
   · rcases hq.1 with h2 | h2 | h2
     · exact (h1.bk _ h2).2.2.2.1 h
     · exact (hC _ h2).2.2.2.2.2.1 h
     · have := (h1.bv _ h).2.1; omega
 have hD5 := InO.chg hD3 c35 fun q hq h => by
   rcases h with h | h
   · exact (h1.bd q hq).2.2 h
   · exact (h1.bv q h).2.2.2 hq
 have hr5 := hr3.chg c35 (by
   rintro (h | h)
   · omega
   · have := (h1.bv _ h).1; omega)
 have hX5 : Ext w w5 := Ext.of_new hX3 c35 fun q hq => by
   rcases hq with h | h
   · omega
   · have := (h1.bv _ h).1; omega
 have hV5 : TxR (fun q => (BV q ∨ C q ∨ w3.heap.size ≤ q) ∧ q ≠ oa) w5 S2 (a.vals ++ b.vals) := by
   have e2' : TxR (fun q => (BV q ∨ C q ∨ w3.heap.size ≤ q) ∧ q ≠ oa) w4 S2 (a.vals ++ b.vals) := TxR.weak e2 fun q _ hq => ⟨hq, by
     rcases hq with h | h | h
     · exact (h1.bv _ h).2.2.1
     · exact (hC _ h).2.2.1
     · omega⟩
   exact TxR.chg e2' k5 fun q hq h => hq.2 h
 obtain ⟨c0, c1, c2, c3⟩ := ndCells hA5
 obtain ⟨d0, d1, d2, d3⟩ := ndCells hb5
 have hz5 := c35.size
 -- the kids
 obtain ⟨S3, w6, e1, e2, e3⟩ := catInt hD5 hmb5.kids (by show a.kids.length ≤ _; omega) (by omega)
 have hA6 := hA5.chg e3 fun h => (h1.bd _ (oD _ h)).2.2 rfl
 obtain ⟨o1, o2⟩ := setOk hA6 (i := 3) (by simp)
 rw [add_mk] at c3 d3
 refine ⟨Da, c3, Db, d3, S3, w6, e1, ?_⟩
 rw [add_mk, add_mk]
 refine ⟨o1, o2, nx ?_⟩
 obtain ⟨w7, hw7⟩ : ∃ w7, w7 = w6.setCell ⟨oa, 0 + 3, none⟩ (.slice S3.a S3.len S3.cap) := ⟨_, rfl⟩
 rw [← hw7]
 have k7 : Chg (fun q => q = oa) w6 w7 := by rw [hw7]; exact chgSet _ _ _ _
 have hA7 : Var w7 oa [.bool a.leaf, .slice S1.a S1.len S1.cap, .slice S2.a S2.len S2.cap, .slice S3.a S3.len S3.cap] Ty.api_Node := by rw [hw7]; exact varSet hA6 _
 have c57 : Chg (fun q => q = oa ∨ BD q) w5 w7 := (e3.mono fun q _ h => .inr (oD q h)).trans (k7.mono fun q _ h => .inl h)
 have hK7 := TxR.chg hK5 c57 fun q hq h => by
   rcases h with h | h
   · exact hq.2 h
   · rcases hq.1 with h2 | h2 | h2
     · exact (h1.bk _ h2).2.2.2.2 h
     · exact (hC _ h2).2.2.2.2.2.2 h
     · have := (h1.bd _ h).2.1; omega
 have hV7 := TxR.chg hV5 c57 fun q hq h => by
   rcases h with h | h
   · exact hq.2 h
   · rcases hq.1 with h2 | h2 | h2
     · exact (h1.bv _ h2).2.2.2 h
     · exact (hC _ h2).2.2.2.2.2.2 h
     · have := (h1.bd _ h).2.1; omega
 have hr7 := hr5.chg c57 (by
   rintro (h | h)
   · omega
   · have := (h1.bd _ h).1; omega)
 have hX7 : Ext w w7 := Ext.of_new hX5 c57 fun q hq => by
   rcases hq with h | h
   · omega
   · have := (h1.bd _ h).1; omega
 have hz7 := c57.size
 have hn7 : NdAt (fun q => lo ≤ q) w7 (mergeN a s b) S1 S2 S3 := by
   have eN : mergeN a s b = ⟨a.leaf, keysL ++ b.keys, a.vals ++ b.vals, a.kids ++ b.kids⟩ := by
     unfold mergeN
     cases hlf : a.leaf with
     | true =>
       have ka : a.kids = [] := by
         rcases sa with h | h
         · exact h.kids
         · have := h.inner; rw [hlf] at this; cases this
       have kb : b.kids = [] := by
         rcases sb with h | h
         · exact h.kids
         · have := h.inner; rw [← hl, hlf] at this; cases this
       rw [hkeysL, hlf, ka, kb]
       simp
     | false =>
       have ka : a.vals = [] := by
         rcases sa with h | h
         · have := h.leaf; rw [hlf] at this; cases this
         · exact h.vals
       have kb : b.vals = [] := by
         rcases sb with h | h
         · have := h.leaf; rw [← hl, hlf] at this; cases this
         · exact h.vals
       rw [hkeysL, hlf, ka, kb]
       simp
   rw [eN]
   refine ⟨TxR.weak hK7 fun q _ hq => ?_, TxR.weak hV7 fun q _ hq => ?_, InR.weak (InR.chg (B := fun q => (BD q ∨ C q ∨ w5.heap.size ≤ q) ∧ q ≠ oa) (InR.weak e2 fun q _ hq => ⟨hq, ?_⟩) k7 fun q hq h => hq.2 h) fun q _ hq => ?_⟩
   · rcases hq.1 with h | h | h
     · exact (h1.bk _ h).1
     · exact (hC _ h).1
     · omega
   · rcases hq.1 with h | h | h
     · exact (h1.bv _ h).1
     · exact (hC _ h).1
     · omega
   · rcases hq with h | h | h
     · exact (h1.bd _ h).2.2
     · exact (hC _ h).2.2.1
     · omega
   · rcases hq.1 with h | h | h
     · exact (h1.bd _ h).1
     · exact (hC _ h).1
     · omega
 obtain ⟨c0, c1, c2, c3⟩ := ndCells hA7
 rw [add_mk] at c1 c2 c3
 have hmk : (mergeN a s b).keys.length ≤ 20001 := by
   unfold mergeN
   split
   · show (a.keys ++ b.keys).length ≤ _; rw [List.length_append]; omega
   · show (a.keys ++ s :: b.keys).length ≤ _; rw [List.length_append, List.length_cons]; omega
 have hmv : (mergeN a s b).vals.length ≤ 20001 := by
   unfold mergeN
   split
   · show (a.vals ++ b.vals).length ≤ _; rw [List.length_append]; omega
   · simp
 have hmd : (mergeN a s b).kids.length ≤ 20002 := by
   unfold mergeN
   split
   · simp
   · show (a.kids ++ b.kids).length ≤ _; rw [List.length_append]; omega
 have hml : (mergeN a s b).leaf = a.leaf := mergeN_leaf
 repeat rw [add_mk]
 refine ⟨_, c0, S1, c1, S2, c2, S3, c3, ?_⟩
 have hso := node_sound hn7 (by omega) (by omega) (by omega)
 unfold ndV at hso
 rw [hml] at hso
 refine hso.use ?_
 rintro _ w8 ⟨bb, rfl, hbb, hx8⟩
 have := hbb.2 hs
 subst this
 obtain ⟨c0, c1, c2, c3⟩ := ndCells (hA7.ext hx8)
 rw [add_mk] at c1 c2 c3
 have hfin := retN a.leaf S1 S2 S3 (hr7.ext hx8) hrl (Q := fun b' K V D w2 => NdRes (mergeN a s b) w (.tuple #[.agg #[.bool b', .slice K.a K.len K.cap, .slice V.a V.len V.cap, .slice D.a D.len D.cap], .bool true]) w2) fun w9 hc9 => ⟨S1, S2, S3, by unfold ndV; rw [hml], ((hn7.ext hx8).chg hc9 fun q hq e => by omega).weak fun q _ hq => by omega, Ext.of_chg (hX7.trans hx8) hc9 hlo⟩
 repeat rw [add_mk] at hfin
 exact ⟨true, rfl, fun h => (by cases h), fun _ => ⟨_, c0, S1, c1, S2, c2, S3, c3, hfin⟩⟩
theorem node_Merge {Ba Bb : Nat → Prop} {w : World} {a b : Nd} {Ka0 Va0 Da0 Kb0 Vb0 Db0 key : Sl} {s : Key} (ha : NdAt Ba w a Ka0 Va0 Da0) (hb : NdAt Bb w b Kb0 Vb0 Db0) (hk : Src 1 w key (u8s s)) (hkin : ∀ q, ownB key q → q < w.heap.size) (hsl : s.length ≤ 1000) (sa : SoundN a) (sb : SoundN b) (hl : a.leaf = b.leaf) (hs : SoundN (mergeN a s b))
   (n1 : a.keys.length ≤ 10000) (n2 : b.keys.length ≤ 10000) :
   Ret Tryz.prog F.node_Merge #[ndV a Ka0 Va0 Da0, .slice key.a key.len key.cap, ndV b Kb0 Vb0 Db0] w (NdRes (mergeN a s b) w) := by
 have rv : ∀ {n : Nd}, SoundN n → n.keys.length ≤ 10000 → n.vals.length ≤ 10000 ∧ n.kids.length ≤ 10001 := fun {n} h1 h2 => by
   rcases h1 with h1 | h1
   · rw [h1.len, h1.kids]; exact ⟨h2, Nat.zero_le _⟩
   · rw [h1.len, h1.vals]; exact ⟨Nat.zero_le _, by omega⟩
 obtain ⟨va, da⟩ := rv sa n1
 obtain ⟨vb, db⟩ := rv sb n2
 have kla : ∀ k ∈ a.keys, k.length ≤ 100000 := fun k hk => by have := (sa.keys.ok k hk).2; omega
 have klb : ∀ k ∈ b.keys, k.length ≤ 100000 := fun k hk => by have := (sb.keys.ok k hk).2; omega
 have vla : ∀ k ∈ a.vals, k.length ≤ 100000 := fun k hk => by have := sa.vals k hk; omega
 have vlb : ∀ k ∈ b.vals, k.length ≤ 100000 := fun k hk => by have := sb.vals k hk; omega
 refine W.node_Merge_ok a.leaf Ka0 Va0 Da0 key b.leaf Kb0 Vb0 Db0 w _ ?_
 (delta W.node_Merge z1 r3 nA r1 c3 T14 Br T6 T26 c11 T1 c12 T25 st T21 T22; dsimp only)
 refine nxVar (vs := [.bool a.leaf, .slice Ka0.a Ka0.len Ka0.cap, .slice Va0.a Va0.len Va0.cap, .slice Da0.a Da0.len Da0.cap]) rfl fun w1 hp1 hx1 hz1 => ?_
 refine nxVar (vs := [.bool b.leaf, .slice Kb0.a Kb0.len Kb0.cap, .slice Vb0.a Vb0.len Vb0.cap, .slice Db0.a Db0.len Db0.cap]) rfl fun w2 hq2 hx2 hz2 => ?_
 refine nxVar (vs := [.bool false, .slice none 0 0, .slice none 0 0, .slice none 0 0]) rfl fun w3 hr3 hx3 hz3 => ?_
 have hX3 := hx1.trans (hx2.trans hx3)
 obtain ⟨c0, c1, c2, c3⟩ := ndCells (hp1.ext (hx2.trans hx3))
 refine ⟨_, c0, Ka0, c1, Va0, c2, Da0, c3, (node_sound (ha.ext hX3) (by omega) (by omega) (by omega)).use ?_⟩
 rintro _ w4 ⟨b1, rfl, hb1, hx4⟩
 have := hb1.2 sa
 subst this
 have hX4 := hX3.trans hx4
 obtain ⟨d0, d1, d2, d3⟩ := ndCells (hq2.ext (hx3.trans hx4))
 refine ⟨true, rfl, Jn1 (fun b w' => b = false ∧ Ext w4 w') (fun q hq => ⟨fun h => (by cases h), fun _ => ⟨_, d0, Kb0, d1, Vb0, d2, Db0, d3, (node_sound (hb.ext hX4) (by omega) (by omega) (by omega)).use ?_⟩⟩) ?_⟩
 · rintro _ w5 ⟨b2, rfl, hb2, hx5⟩
   have := hb2.2 sb
   subst this
   exact ⟨true, rfl, hq _ _ ⟨rfl, hx5⟩⟩
 rintro _ w5 ⟨rfl, hx5⟩
 have hX5 := hX4.trans hx5
 obtain ⟨c0, c1, c2, c3⟩ := ndCells (hp1.ext (hx2.trans (hx3.trans (hx4.trans hx5))))
 obtain ⟨d0, d1, d2, d3⟩ := ndCells (hq2.ext (hx3.trans (hx4.trans hx5)))
 refine Jn1 (fun b w' => b = false ∧ w5 = w') (fun q hq => ⟨fun h => (by cases h), fun _ => ⟨_, c0, _, d0, hq _ _ ⟨by rw [hl]; simp, rfl⟩⟩⟩) ?_
 rintro _ _ ⟨rfl, rfl⟩
 have hxd := ext_drew w5
 have hXD := hX5.trans hxd
 obtain ⟨y0, hy0⟩ : ∃ y0, y0 = w5.drew := ⟨_, rfl⟩
 have hpy : Var y0 w.heap.size [.bool a.leaf, .slice Ka0.a Ka0.len Ka0.cap, .slice Va0.a Va0.len Va0.cap, .slice Da0.a Da0.len Da0.cap] Ty.api_Node := by rw [hy0]; exact (hp1.ext (hx2.trans (hx3.trans (hx4.trans hx5)))).ext hxd
 have hqy : Var y0 w1.heap.size [.bool b.leaf, .slice Kb0.a Kb0.len Kb0.cap, .slice Vb0.a Vb0.len Vb0.cap, .slice Db0.a Db0.len Db0.cap] Ty.api_Node := by rw [hy0]; exact (hq2.ext (hx3.trans (hx4.trans hx5))).ext hxd
 have hry : Var y0 w2.heap.size [.bool false, .slice none 0 0, .slice none 0 0, .slice none 0 0] Ty.api_Node := by rw [hy0]; exact (hr3.ext (hx4.trans hx5)).ext hxd
 have hX0 : Ext w y0 := by rw [hy0]; exact hXD
 have hzy : w3.heap.size ≤ y0.heap.size := by rw [hy0]; exact (hx4.trans hx5).size
 have ha0 := ha.ext hX0
 have hb0 := hb.ext hX0
 have hk0 := hk.ext hX0
 obtain ⟨lo, hlo⟩ : ∃ lo, lo = y0.heap.size := ⟨_, rfl⟩
 rw [← hy0]
 clear c0 c1 c2 c3 d0 d1 d2 d3 hy0 hXD hxd
 obtain ⟨c0, c1, c2, c3⟩ := ndCells hpy
 obtain ⟨d0, d1, d2, d3⟩ := ndCells hqy
 refine ⟨fun h => (by cases h), fun _ => nx ⟨fun _ => False, id, _, c0, Ka0, c1, Va0, c2, Da0, c3, id, _, d0, Kb0, d1, Vb0, d2, Db0, d3, ?_⟩⟩
 refine ⟨?_, ?_, ?_⟩
 · refine (node_own ha0 (by omega) (by omega) (by omega) kla vla).use ?_
   rintro _ y1 ⟨Ka, Va, Da, BKa, BVa, BDa, rfl, hma, g1⟩
   refine ⟨_, Ka, Va, Da, rfl, g1, ?_⟩
   have s1 := g1.size
   refine ⟨?_, ?_, ?_⟩
   · refine (node_own (hb0.ext g1) (by omega) (by omega) (by omega) klb vlb).use ?_
     rintro _ y2 ⟨Kb, Vb, Db, BKb, BVb, BDb, rfl, hmb, g2⟩
     refine ⟨_, Kb, Vb, Db, rfl, g2, ?_⟩
     have s2 := g2.size
     refine ⟨?_, ?_⟩
     · refine nxVar (vs := [.bool false, .slice none 0 0, .slice none 0 0, .slice none 0 0]) rfl fun y3 hv3 g3 z3 => ⟨g3, ?_⟩
       have s3 := g3.size
       refine nxVar (vs := [.bool false, .slice none 0 0, .slice none 0 0, .slice none 0 0]) rfl fun y4 hv4 g4 z4 => ⟨g4, ?_⟩
       have s4 := g4.size
       have vA := hv3.ext g4
       have vB := hv4
       refine ⟨vA.storeOk rfl (nodePlain _ _ _ _), rfl, nxPut vA (us := [.bool a.leaf, .slice Ka.a Ka.len Ka.cap, .slice Va.a Va.len Va.cap, .slice Da.a Da.len Da.cap]) rfl rfl fun y5 hA5 c5 t5 => ?_⟩
       have vB5 := vB.chg c5 (by omega)
       refine ⟨vB5.storeOk rfl (nodePlain _ _ _ _), rfl, nxPut vB5 (us := [.bool b.leaf, .slice Kb.a Kb.len Kb.cap, .slice Vb.a Vb.len Vb.cap, .slice Db.a Db.len Db.cap]) rfl rfl fun y6 hB6 c6 t6 => ?_⟩
       obtain ⟨oa, hoa⟩ : ∃ oa, oa = y2.heap.size := ⟨_, rfl⟩
       obtain ⟨ob, hob⟩ : ∃ ob, ob = y3.heap.size := ⟨_, rfl⟩
       rw [← hoa] at hA5 c5
       rw [← hob] at hB6 c6
       rw [← hoa, ← hob]
       have c56 : Chg (fun q => q = oa ∨ q = ob) y4 y6 := (c5.mono fun q _ h => .inl h).trans (c6.mono fun q _ h => .inr h)
       have hma6 : NdMem lo y6 a Ka Va Da BKa BVa BDa := (((hma.ext (g2.trans (g3.trans (g4)))).chg c56 fun q _ _ hq e => by have h9 : y0.heap.size ≤ q ∧ q < y1.heap.size := (by rcases hq with hq | hq | hq; exact ⟨(hma.bk q hq).1, (hma.bk q hq).2.1⟩; exact ⟨(hma.bv q hq).1, (hma.bv q hq).2.1⟩; exact hma.bd q hq); omega).low (by omega))
       have hmb6 : NdAt (fun q => y1.heap.size ≤ q ∧ q < y2.heap.size) y6 b Kb Vb Db := ((hmb.at.weak fun q h1 h2 => ⟨h2, h1⟩).ext (g3.trans (g4))).chg c56 fun q hq e => by omega
       have hra : ∀ q, BKa q ∨ BVa q ∨ BDa q → y0.heap.size ≤ q ∧ q < y1.heap.size := fun q hq => by
         rcases hq with hq | hq | hq
         · exact ⟨(hma.bk q hq).1, (hma.bk q hq).2.1⟩
         · exact ⟨(hma.bv q hq).1, (hma.bv q hq).2.1⟩
         · exact hma.bd q hq
       exact mergeTail (lo := lo) (wT := y6) (C := fun q => y1.heap.size ≤ q ∧ q < y2.heap.size) ((hpy.ext (g1.trans (g2.trans (g3.trans g4)))).chg c56 (by omega)).cell (hA5.chg c6 (by omega)) hB6 hma6 hmb6 (fun q hq => ⟨by omega, by omega, by omega, by omega, fun h => (by have := hra q (.inl h); omega), fun h => (by have := hra q (.inr (.inl h)); omega), fun h => (by have := hra q (.inr (.inr h)); omega)⟩) (fun q hq => (by have := hra q hq; exact ⟨by omega, by omega⟩)) (by omega) (by omega) (by omega) ((hry.ext (g1.trans (g2.trans (g3.trans g4)))).chg c56 (by omega)) rfl (by omega) (by omega) ((hk0.ext (g1.trans (g2.trans (g3.trans g4)))).chg c56 fun q hq e => (by have := hkin q hq; have := hX0.size; omega)) hsl (Ext.of_new (hX0.trans (g1.trans (g2.trans (g3.trans g4)))) c56 fun q hq => by omega) hs hl sa sb n1 n2
     · refine nxVar (vs := [.bool false, .slice none 0 0, .slice none 0 0, .slice none 0 0]) rfl fun y3 hv3 g3 z3 => ⟨g3, ?_⟩
       have s3 := g3.size
       refine nxVar (vs := [.bool false, .slice none 0 0, .slice none 0 0, .slice none 0 0]) rfl fun y4 hv4 g4 z4 => ⟨g4, ?_⟩
       have s4 := g4.size
       have vA := hv4
       have vB := hv3.ext g4
       refine ⟨vA.storeOk rfl (nodePlain _ _ _ _), rfl, nxPut vA (us := [.bool a.leaf, .slice Ka.a Ka.len Ka.cap, .slice Va.a Va.len Va.cap, .slice Da.a Da.len Da.cap]) rfl rfl fun y5 hA5 c5 t5 => ?_⟩
       have vB5 := vB.chg c5 (by omega)
       refine ⟨vB5.storeOk rfl (nodePlain _ _ _ _), rfl, nxPut vB5 (us := [.bool b.leaf, .slice Kb.a Kb.len Kb.cap, .slice Vb.a Vb.len Vb.cap, .slice Db.a Db.len Db.cap]) rfl rfl fun y6 hB6 c6 t6 => ?_⟩
       obtain ⟨oa, hoa⟩ : ∃ oa, oa = y3.heap.size := ⟨_, rfl⟩
       obtain ⟨ob, hob⟩ : ∃ ob, ob = y2.heap.size := ⟨_, rfl⟩
       rw [← hoa] at hA5 c5
       rw [← hob] at hB6 c6
       rw [← hoa, ← hob]
       have c56 : Chg (fun q => q = oa ∨ q = ob) y4 y6 := (c5.mono fun q _ h => .inl h).trans (c6.mono fun q _ h => .inr h)
       have hma6 : NdMem lo y6 a Ka Va Da BKa BVa BDa := (((hma.ext (g2.trans (g3.trans (g4)))).chg c56 fun q _ _ hq e => by have h9 : y0.heap.size ≤ q ∧ q < y1.heap.size := (by rcases hq with hq | hq | hq; exact ⟨(hma.bk q hq).1, (hma.bk q hq).2.1⟩; exact ⟨(hma.bv q hq).1, (hma.bv q hq).2.1⟩; exact hma.bd q hq); omega).low (by omega))
       have hmb6 : NdAt (fun q => y1.heap.size ≤ q ∧ q < y2.heap.size) y6 b Kb Vb Db := ((hmb.at.weak fun q h1 h2 => ⟨h2, h1⟩).ext (g3.trans (g4))).chg c56 fun q hq e => by omega
       have hra : ∀ q, BKa q ∨ BVa q ∨ BDa q → y0.heap.size ≤ q ∧ q < y1.heap.size := fun q hq => by
         rcases hq with hq | hq | hq
         · exact ⟨(hma.bk q hq).1, (hma.bk q hq).2.1⟩
         · exact ⟨(hma.bv q hq).1, (hma.bv q hq).2.1⟩
         · exact hma.bd q hq
       exact mergeTail (lo := lo) (wT := y6) (C := fun q => y1.heap.size ≤ q ∧ q < y2.heap.size) ((hpy.ext (g1.trans (g2.trans (g3.trans g4)))).chg c56 (by omega)).cell (hA5.chg c6 (by omega)) hB6 hma6 hmb6 (fun q hq => ⟨by omega, by omega, by omega, by omega, fun h => (by have := hra q (.inl h); omega), fun h => (by have := hra q (.inr (.inl h)); omega), fun h => (by have := hra q (.inr (.inr h)); omega)⟩) (fun q hq => (by have := hra q hq; exact ⟨by omega, by omega⟩)) (by omega) (by omega) (by omega) ((hry.ext (g1.trans (g2.trans (g3.trans g4)))).chg c56 (by omega)) rfl (by omega) (by omega) ((hk0.ext (g1.trans (g2.trans (g3.trans g4)))).chg c56 fun q hq e => (by have := hkin q hq; have := hX0.size; omega)) hsl (Ext.of_new (hX0.trans (g1.trans (g2.trans (g3.trans g4)))) c56 fun q hq => by omega) hs hl sa sb n1 n2
   · refine nxVar (vs := [.bool false, .slice none 0 0, .slice none 0 0, .slice none 0 0]) rfl fun y2 hv2 g2 z2 => ⟨g2, ?_⟩
     have s2 := g2.size
     refine ⟨?_, ?_⟩
     · refine (node_own (hb0.ext (g1.trans (g2))) (by omega) (by omega) (by omega) klb vlb).use ?_
       rintro _ y3 ⟨Kb, Vb, Db, BKb, BVb, BDb, rfl, hmb, g3⟩
       refine ⟨_, Kb, Vb, Db, rfl, g3, ?_⟩
       have s3 := g3.size
       refine nxVar (vs := [.bool false, .slice none 0 0, .slice none 0 0, .slice none 0 0]) rfl fun y4 hv4 g4 z4 => ⟨g4, ?_⟩
       have s4 := g4.size
       have vA := hv2.ext (g3.trans (g4))
       have vB := hv4
       refine ⟨vA.storeOk rfl (nodePlain _ _ _ _), rfl, nxPut vA (us := [.bool a.leaf, .slice Ka.a Ka.len Ka.cap, .slice Va.a Va.len Va.cap, .slice Da.a Da.len Da.cap]) rfl rfl fun y5 hA5 c5 t5 => ?_⟩
       have vB5 := vB.chg c5 (by omega)
       refine ⟨vB5.storeOk rfl (nodePlain _ _ _ _), rfl, nxPut vB5 (us := [.bool b.leaf, .slice Kb.a Kb.len Kb.cap, .slice Vb.a Vb.len Vb.cap, .slice Db.a Db.len Db.cap]) rfl rfl fun y6 hB6 c6 t6 => ?_⟩
       obtain ⟨oa, hoa⟩ : ∃ oa, oa = y1.heap.size := ⟨_, rfl⟩
       obtain ⟨ob, hob⟩ : ∃ ob, ob = y3.heap.size := ⟨_, rfl⟩
       rw [← hoa] at hA5 c5
       rw [← hob] at hB6 c6
       rw [← hoa, ← hob]
       have c56 : Chg (fun q => q = oa ∨ q = ob) y4 y6 := (c5.mono fun q _ h => .inl h).trans (c6.mono fun q _ h => .inr h)
       have hma6 : NdMem lo y6 a Ka Va Da BKa BVa BDa := (((hma.ext (g2.trans (g3.trans (g4)))).chg c56 fun q _ _ hq e => by have h9 : y0.heap.size ≤ q ∧ q < y1.heap.size := (by rcases hq with hq | hq | hq; exact ⟨(hma.bk q hq).1, (hma.bk q hq).2.1⟩; exact ⟨(hma.bv q hq).1, (hma.bv q hq).2.1⟩; exact hma.bd q hq); omega).low (by omega))
       have hmb6 : NdAt (fun q => y2.heap.size ≤ q ∧ q < y3.heap.size) y6 b Kb Vb Db := ((hmb.at.weak fun q h1 h2 => ⟨h2, h1⟩).ext g4).chg c56 fun q hq e => by omega
       have hra : ∀ q, BKa q ∨ BVa q ∨ BDa q → y0.heap.size ≤ q ∧ q < y1.heap.size := fun q hq => by
         rcases hq with hq | hq | hq
         · exact ⟨(hma.bk q hq).1, (hma.bk q hq).2.1⟩
         · exact ⟨(hma.bv q hq).1, (hma.bv q hq).2.1⟩
         · exact hma.bd q hq
       exact mergeTail (lo := lo) (wT := y6) (C := fun q => y2.heap.size ≤ q ∧ q < y3.heap.size) ((hpy.ext (g1.trans (g2.trans (g3.trans g4)))).chg c56 (by omega)).cell (hA5.chg c6 (by omega)) hB6 hma6 hmb6 (fun q hq => ⟨by omega, by omega, by omega, by omega, fun h => (by have := hra q (.inl h); omega), fun h => (by have := hra q (.inr (.inl h)); omega), fun h => (by have := hra q (.inr (.inr h)); omega)⟩) (fun q hq => (by have := hra q hq; exact ⟨by omega, by omega⟩)) (by omega) (by omega) (by omega) ((hry.ext (g1.trans (g2.trans (g3.trans g4)))).chg c56 (by omega)) rfl (by omega) (by omega) ((hk0.ext (g1.trans (g2.trans (g3.trans g4)))).chg c56 fun q hq e => (by have := hkin q hq; have := hX0.size; omega)) hsl (Ext.of_new (hX0.trans (g1.trans (g2.trans (g3.trans g4)))) c56 fun q hq => by omega) hs hl sa sb n1 n2
     · refine nxVar (vs := [.bool false, .slice none 0 0, .slice none 0 0, .slice none 0 0]) rfl fun y3 hv3 g3 z3 => ⟨g3, ?_⟩
       have s3 := g3.size
       refine (node_own (hb0.ext (g1.trans (g2.trans (g3)))) (by omega) (by omega) (by omega) klb vlb).use ?_
       rintro _ y4 ⟨Kb, Vb, Db, BKb, BVb, BDb, rfl, hmb, g4⟩
       refine ⟨_, Kb, Vb, Db, rfl, g4, ?_⟩
       have s4 := g4.size
       have vA := hv2.ext (g3.trans (g4))
       have vB := hv3.ext g4
       refine ⟨vA.storeOk rfl (nodePlain _ _ _ _), rfl, nxPut vA (us := [.bool a.leaf, .slice Ka.a Ka.len Ka.cap, .slice Va.a Va.len Va.cap, .slice Da.a Da.len Da.cap]) rfl rfl fun y5 hA5 c5 t5 => ?_⟩
       have vB5 := vB.chg c5 (by omega)
       refine ⟨vB5.storeOk rfl (nodePlain _ _ _ _), rfl, nxPut vB5 (us := [.bool b.leaf, .slice Kb.a Kb.len Kb.cap, .slice Vb.a Vb.len Vb.cap, .slice Db.a Db.len Db.cap]) rfl rfl fun y6 hB6 c6 t6 => ?_⟩
       obtain ⟨oa, hoa⟩ : ∃ oa, oa = y1.heap.size := ⟨_, rfl⟩
       obtain ⟨ob, hob⟩ : ∃ ob, ob = y2.heap.size := ⟨_, rfl⟩
       rw [← hoa] at hA5 c5
       rw [← hob] at hB6 c6
       rw [← hoa, ← hob]
       have c56 : Chg (fun q => q = oa ∨ q = ob) y4 y6 := (c5.mono fun q _ h => .inl h).trans (c6.mono fun q _ h => .inr h)
       have hma6 : NdMem lo y6 a Ka Va Da BKa BVa BDa := (((hma.ext (g2.trans (g3.trans (g4)))).chg c56 fun q _ _ hq e => by have h9 : y0.heap.size ≤ q ∧ q < y1.heap.size := (by rcases hq with hq | hq | hq; exact ⟨(hma.bk q hq).1, (hma.bk q hq).2.1⟩; exact ⟨(hma.bv q hq).1, (hma.bv q hq).2.1⟩; exact hma.bd q hq); omega).low (by omega))
       have hmb6 : NdAt (fun q => y3.heap.size ≤ q ∧ q < y4.heap.size) y6 b Kb Vb Db := (hmb.at.weak fun q h1 h2 => ⟨h2, h1⟩).chg c56 fun q hq e => by omega
       have hra : ∀ q, BKa q ∨ BVa q ∨ BDa q → y0.heap.size ≤ q ∧ q < y1.heap.size := fun q hq => by
         rcases hq with hq | hq | hq
         · exact ⟨(hma.bk q hq).1, (hma.bk q hq).2.1⟩
         · exact ⟨(hma.bv q hq).1, (hma.bv q hq).2.1⟩
         · exact hma.bd q hq
       exact mergeTail (lo := lo) (wT := y6) (C := fun q => y3.heap.size ≤ q ∧ q < y4.heap.size) ((hpy.ext (g1.trans (g2.trans (g3.trans g4)))).chg c56 (by omega)).cell (hA5.chg c6 (by omega)) hB6 hma6 hmb6 (fun q hq => ⟨by omega, by omega, by omega, by omega, fun h => (by have := hra q (.inl h); omega), fun h => (by have := hra q (.inr (.inl h)); omega), fun h => (by have := hra q (.inr (.inr h)); omega)⟩) (fun q hq => (by have := hra q hq; exact ⟨by omega, by omega⟩)) (by omega) (by omega) (by omega) ((hry.ext (g1.trans (g2.trans (g3.trans g4)))).chg c56 (by omega)) rfl (by omega) (by omega) ((hk0.ext (g1.trans (g2.trans (g3.trans g4)))).chg c56 fun q hq e => (by have := hkin q hq; have := hX0.size; omega)) hsl (Ext.of_new (hX0.trans (g1.trans (g2.trans (g3.trans g4)))) c56 fun q hq => by omega) hs hl sa sb n1 n2
   · refine nxVar (vs := [.bool false, .slice none 0 0, .slice none 0 0, .slice none 0 0]) rfl fun y2 hv2 g2 z2 => ⟨g2, ?_⟩
     have s2 := g2.size
     refine ⟨?_, ?_⟩
     · refine (node_own (hb0.ext (g1.trans (g2))) (by omega) (by omega) (by omega) klb vlb).use ?_
       rintro _ y3 ⟨Kb, Vb, Db, BKb, BVb, BDb, rfl, hmb, g3⟩
       refine ⟨_, Kb, Vb, Db, rfl, g3, ?_⟩
       have s3 := g3.size
       refine nxVar (vs := [.bool false, .slice none 0 0, .slice none 0 0, .slice none 0 0]) rfl fun y4 hv4 g4 z4 => ⟨g4, ?_⟩
       have s4 := g4.size
       have vA := hv4
       have vB := hv2.ext (g3.trans (g4))
       refine ⟨vA.storeOk rfl (nodePlain _ _ _ _), rfl, nxPut vA (us := [.bool a.leaf, .slice Ka.a Ka.len Ka.cap, .slice Va.a Va.len Va.cap, .slice Da.a Da.len Da.cap]) rfl rfl fun y5 hA5 c5 t5 => ?_⟩
       have vB5 := vB.chg c5 (by omega)
       refine ⟨vB5.storeOk rfl (nodePlain _ _ _ _), rfl, nxPut vB5 (us := [.bool b.leaf, .slice Kb.a Kb.len Kb.cap, .slice Vb.a Vb.len Vb.cap, .slice Db.a Db.len Db.cap]) rfl rfl fun y6 hB6 c6 t6 => ?_⟩
       obtain ⟨oa, hoa⟩ : ∃ oa, oa = y3.heap.size := ⟨_, rfl⟩
       obtain ⟨ob, hob⟩ : ∃ ob, ob = y1.heap.size := ⟨_, rfl⟩
       rw [← hoa] at hA5 c5
       rw [← hob] at hB6 c6
       rw [← hoa, ← hob]
       have c56 : Chg (fun q => q = oa ∨ q = ob) y4 y6 := (c5.mono fun q _ h => .inl h).trans (c6.mono fun q _ h => .inr h)
       have hma6 : NdMem lo y6 a Ka Va Da BKa BVa BDa := (((hma.ext (g2.trans (g3.trans (g4)))).chg c56 fun q _ _ hq e => by have h9 : y0.heap.size ≤ q ∧ q < y1.heap.size := (by rcases hq with hq | hq | hq; exact ⟨(hma.bk q hq).1, (hma.bk q hq).2.1⟩; exact ⟨(hma.bv q hq).1, (hma.bv q hq).2.1⟩; exact hma.bd q hq); omega).low (by omega))
       have hmb6 : NdAt (fun q => y2.heap.size ≤ q ∧ q < y3.heap.size) y6 b Kb Vb Db := ((hmb.at.weak fun q h1 h2 => ⟨h2, h1⟩).ext g4).chg c56 fun q hq e => by omega
       have hra : ∀ q, BKa q ∨ BVa q ∨ BDa q → y0.heap.size ≤ q ∧ q < y1.heap.size := fun q hq => by
         rcases hq with hq | hq | hq
         · exact ⟨(hma.bk q hq).1, (hma.bk q hq).2.1⟩
         · exact ⟨(hma.bv q hq).1, (hma.bv q hq).2.1⟩
         · exact hma.bd q hq
       exact mergeTail (lo := lo) (wT := y6) (C := fun q => y2.heap.size ≤ q ∧ q < y3.heap.size) ((hpy.ext (g1.trans (g2.trans (g3.trans g4)))).chg c56 (by omega)).cell (hA5.chg c6 (by omega)) hB6 hma6 hmb6 (fun q hq => ⟨by omega, by omega, by omega, by omega, fun h => (by have := hra q (.inl h); omega), fun h => (by have := hra q (.inr (.inl h)); omega), fun h => (by have := hra q (.inr (.inr h)); omega)⟩) (fun q hq => (by have := hra q hq; exact ⟨by omega, by omega⟩)) (by omega) (by omega) (by omega) ((hry.ext (g1.trans (g2.trans (g3.trans g4)))).chg c56 (by omega)) rfl (by omega) (by omega) ((hk0.ext (g1.trans (g2.trans (g3.trans g4)))).chg c56 fun q hq e => (by have := hkin q hq; have := hX0.size; omega)) hsl (Ext.of_new (hX0.trans (g1.trans (g2.trans (g3.trans g4)))) c56 fun q hq => by omega) hs hl sa sb n1 n2
     · refine nxVar (vs := [.bool false, .slice none 0 0, .slice none 0 0, .slice none 0 0]) rfl fun y3 hv3 g3 z3 => ⟨g3, ?_⟩
       have s3 := g3.size
       refine (node_own (hb0.ext (g1.trans (g2.trans (g3)))) (by omega) (by omega) (by omega) klb vlb).use ?_
       rintro _ y4 ⟨Kb, Vb, Db, BKb, BVb, BDb, rfl, hmb, g4⟩
       refine ⟨_, Kb, Vb, Db, rfl, g4, ?_⟩
       have s4 := g4.size
       have vA := hv3.ext g4
       have vB := hv2.ext (g3.trans (g4))
       refine ⟨vA.storeOk rfl (nodePlain _ _ _ _), rfl, nxPut vA (us := [.bool a.leaf, .slice Ka.a Ka.len Ka.cap, .slice Va.a Va.len Va.cap, .slice Da.a Da.len Da.cap]) rfl rfl fun y5 hA5 c5 t5 => ?_⟩
       have vB5 := vB.chg c5 (by omega)
       refine ⟨vB5.storeOk rfl (nodePlain _ _ _ _), rfl, nxPut vB5 (us := [.bool b.leaf, .slice Kb.a Kb.len Kb.cap, .slice Vb.a Vb.len Vb.cap, .slice Db.a Db.len Db.cap]) rfl rfl fun y6 hB6 c6 t6 => ?_⟩
       obtain ⟨oa, hoa⟩ : ∃ oa, oa = y2.heap.size := ⟨_, rfl⟩
       obtain ⟨ob, hob⟩ : ∃ ob, ob = y1.heap.size := ⟨_, rfl⟩
       rw [← hoa] at hA5 c5
       rw [← hob] at hB6 c6
       rw [← hoa, ← hob]
       have c56 : Chg (fun q => q = oa ∨ q = ob) y4 y6 := (c5.mono fun q _ h => .inl h).trans (c6.mono fun q _ h => .inr h)
       have hma6 : NdMem lo y6 a Ka Va Da BKa BVa BDa := (((hma.ext (g2.trans (g3.trans (g4)))).chg c56 fun q _ _ hq e => by have h9 : y0.heap.size ≤ q ∧ q < y1.heap.size := (by rcases hq with hq | hq | hq; exact ⟨(hma.bk q hq).1, (hma.bk q hq).2.1⟩; exact ⟨(hma.bv q hq).1, (hma.bv q hq).2.1⟩; exact hma.bd q hq); omega).low (by omega))
       have hmb6 : NdAt (fun q => y3.heap.size ≤ q ∧ q < y4.heap.size) y6 b Kb Vb Db := (hmb.at.weak fun q h1 h2 => ⟨h2, h1⟩).chg c56 fun q hq e => by omega
       have hra : ∀ q, BKa q ∨ BVa q ∨ BDa q → y0.heap.size ≤ q ∧ q < y1.heap.size := fun q hq => by
         rcases hq with hq | hq | hq
         · exact ⟨(hma.bk q hq).1, (hma.bk q hq).2.1⟩
         · exact ⟨(hma.bv q hq).1, (hma.bv q hq).2.1⟩
         · exact hma.bd q hq
       exact mergeTail (lo := lo) (wT := y6) (C := fun q => y3.heap.size ≤ q ∧ q < y4.heap.size) ((hpy.ext (g1.trans (g2.trans (g3.trans g4)))).chg c56 (by omega)).cell (hA5.chg c6 (by omega)) hB6 hma6 hmb6 (fun q hq => ⟨by omega, by omega, by omega, by omega, fun h => (by have := hra q (.inl h); omega), fun h => (by have := hra q (.inr (.inl h)); omega), fun h => (by have := hra q (.inr (.inr h)); omega)⟩) (fun q hq => (by have := hra q hq; exact ⟨by omega, by omega⟩)) (by omega) (by omega) (by omega) ((hry.ext (g1.trans (g2.trans (g3.trans g4)))).chg c56 (by omega)) rfl (by omega) (by omega) ((hk0.ext (g1.trans (g2.trans (g3.trans g4)))).chg c56 fun q hq e => (by have := hkin q hq; have := hX0.size; omega)) hsl (Ext.of_new (hX0.trans (g1.trans (g2.trans (g3.trans g4)))) c56 fun q hq => by omega) hs hl sa sb n1 n2
 · refine nxVar (vs := [.bool false, .slice none 0 0, .slice none 0 0, .slice none 0 0]) rfl fun y1 hv1 g1 z1 => ⟨g1, ?_⟩
   have s1 := g1.size
   refine ⟨?_, ?_⟩
   · refine (node_own (ha0.ext g1) (by omega) (by omega) (by omega) kla vla).use ?_
     rintro _ y2 ⟨Ka, Va, Da, BKa, BVa, BDa, rfl, hma, g2⟩
     refine ⟨_, Ka, Va, Da, rfl, g2, ?_⟩
     have s2 := g2.size
     refine ⟨?_, ?_⟩
     · refine (node_own (hb0.ext (g1.trans (g2))) (by omega) (by omega) (by omega) klb vlb).use ?_
       rintro _ y3 ⟨Kb, Vb, Db, BKb, BVb, BDb, rfl, hmb, g3⟩
       refine ⟨_, Kb, Vb, Db, rfl, g3, ?_⟩
       have s3 := g3.size
       refine nxVar (vs := [.bool false, .slice none 0 0, .slice none 0 0, .slice none 0 0]) rfl fun y4 hv4 g4 z4 => ⟨g4, ?_⟩
       have s4 := g4.size
       have vA := hv1.ext (g2.trans (g3.trans (g4)))
       have vB := hv4
       refine ⟨vA.storeOk rfl (nodePlain _ _ _ _), rfl, nxPut vA (us := [.bool a.leaf, .slice Ka.a Ka.len Ka.cap, .slice Va.a Va.len Va.cap, .slice Da.a Da.len Da.cap]) rfl rfl fun y5 hA5 c5 t5 => ?_⟩
       have vB5 := vB.chg c5 (by omega)
       refine ⟨vB5.storeOk rfl (nodePlain _ _ _ _), rfl, nxPut vB5 (us := [.bool b.leaf, .slice Kb.a Kb.len Kb.cap, .slice Vb.a Vb.len Vb.cap, .slice Db.a Db.len Db.cap]) rfl rfl fun y6 hB6 c6 t6 => ?_⟩
       obtain ⟨oa, hoa⟩ : ∃ oa, oa = y0.heap.size := ⟨_, rfl⟩
       obtain ⟨ob, hob⟩ : ∃ ob, ob = y3.heap.size := ⟨_, rfl⟩
       rw [← hoa] at hA5 c5
       rw [← hob] at hB6 c6
       rw [← hoa, ← hob]
       have c56 : Chg (fun q => q = oa ∨ q = ob) y4 y6 := (c5.mono fun q _ h => .inl h).trans (c6.mono fun q _ h => .inr h)
       have hma6 : NdMem lo y6 a Ka Va Da BKa BVa BDa := (((hma.ext (g3.trans (g4))).chg c56 fun q _ _ hq e => by have h9 : y1.heap.size ≤ q ∧ q < y2.heap.size := (by rcases hq with hq | hq | hq; exact ⟨(hma.bk q hq).1, (hma.bk q hq).2.1⟩; exact ⟨(hma.bv q hq).1, (hma.bv q hq).2.1⟩; exact hma.bd q hq); omega).low (by omega))
       have hmb6 : NdAt (fun q => y2.heap.size ≤ q ∧ q < y3.heap.size) y6 b Kb Vb Db := ((hmb.at.weak fun q h1 h2 => ⟨h2, h1⟩).ext g4).chg c56 fun q hq e => by omega
       have hra : ∀ q, BKa q ∨ BVa q ∨ BDa q → y1.heap.size ≤ q ∧ q < y2.heap.size := fun q hq => by
         rcases hq with hq | hq | hq
         · exact ⟨(hma.bk q hq).1, (hma.bk q hq).2.1⟩
         · exact ⟨(hma.bv q hq).1, (hma.bv q hq).2.1⟩
         · exact hma.bd q hq
       exact mergeTail (lo := lo) (wT := y6) (C := fun q => y2.heap.size ≤ q ∧ q < y3.heap.size) ((hpy.ext (g1.trans (g2.trans (g3.trans g4)))).chg c56 (by omega)).cell (hA5.chg c6 (by omega)) hB6 hma6 hmb6 (fun q hq => ⟨by omega, by omega, by omega, by omega, fun h => (by have := hra q (.inl h); omega), fun h => (by have := hra q (.inr (.inl h)); omega), fun h => (by have := hra q (.inr (.inr h)); omega)⟩) (fun q hq => (by have := hra q hq; exact ⟨by omega, by omega⟩)) (by omega) (by omega) (by omega) ((hry.ext (g1.trans (g2.trans (g3.trans g4)))).chg c56 (by omega)) rfl (by omega) (by omega) ((hk0.ext (g1.trans (g2.trans (g3.trans g4)))).chg c56 fun q hq e => (by have := hkin q hq; have := hX0.size; omega)) hsl (Ext.of_new (hX0.trans (g1.trans (g2.trans (g3.trans g4)))) c56 fun q hq => by omega) hs hl sa sb n1 n2
     · refine nxVar (vs := [.bool false, .slice none 0 0, .slice none 0 0, .slice none 0 0]) rfl fun y3 hv3 g3 z3 => ⟨g3, ?_⟩
       have s3 := g3.size
       refine (node_own (hb0.ext (g1.trans (g2.trans (g3)))) (by omega) (by omega) (by omega) klb vlb).use ?_
       rintro _ y4 ⟨Kb, Vb, Db, BKb, BVb, BDb, rfl, hmb, g4⟩
       refine ⟨_, Kb, Vb, Db, rfl, g4, ?_⟩
       have s4 := g4.size
       have vA := hv1.ext (g2.trans (g3.trans (g4)))
       have vB := hv3.ext g4
       refine ⟨vA.storeOk rfl (nodePlain _ _ _ _), rfl, nxPut vA (us := [.bool a.leaf, .slice Ka.a Ka.len Ka.cap, .slice Va.a Va.len Va.cap, .slice Da.a Da.len Da.cap]) rfl rfl fun y5 hA5 c5 t5 => ?_⟩
       have vB5 := vB.chg c5 (by omega)
       refine ⟨vB5.storeOk rfl (nodePlain _ _ _ _), rfl, nxPut vB5 (us := [.bool b.leaf, .slice Kb.a Kb.len Kb.cap, .slice Vb.a Vb.len Vb.cap, .slice Db.a Db.len Db.cap]) rfl rfl fun y6 hB6 c6 t6 => ?_⟩
       obtain ⟨oa, hoa⟩ : ∃ oa, oa = y0.heap.size := ⟨_, rfl⟩
       obtain ⟨ob, hob⟩ : ∃ ob, ob = y2.heap.size := ⟨_, rfl⟩
       rw [← hoa] at hA5 c5
       rw [← hob] at hB6 c6
       rw [← hoa, ← hob]
       have c56 : Chg (fun q => q = oa ∨ q = ob) y4 y6 := (c5.mono fun q _ h => .inl h).trans (c6.mono fun q _ h => .inr h)
       have hma6 : NdMem lo y6 a Ka Va Da BKa BVa BDa := (((hma.ext (g3.trans (g4))).chg c56 fun q _ _ hq e => by have h9 : y1.heap.size ≤ q ∧ q < y2.heap.size := (by rcases hq with hq | hq | hq; exact ⟨(hma.bk q hq).1, (hma.bk q hq).2.1⟩; exact ⟨(hma.bv q hq).1, (hma.bv q hq).2.1⟩; exact hma.bd q hq); omega).low (by omega))
       have hmb6 : NdAt (fun q => y3.heap.size ≤ q ∧ q < y4.heap.size) y6 b Kb Vb Db := (hmb.at.weak fun q h1 h2 => ⟨h2, h1⟩).chg c56 fun q hq e => by omega
       have hra : ∀ q, BKa q ∨ BVa q ∨ BDa q → y1.heap.size ≤ q ∧ q < y2.heap.size := fun q hq => by
         rcases hq with hq | hq | hq
         · exact ⟨(hma.bk q hq).1, (hma.bk q hq).2.1⟩
         · exact ⟨(hma.bv q hq).1, (hma.bv q hq).2.1⟩
         · exact hma.bd q hq
       exact mergeTail (lo := lo) (wT := y6) (C := fun q => y3.heap.size ≤ q ∧ q < y4.heap.size) ((hpy.ext (g1.trans (g2.trans (g3.trans g4)))).chg c56 (by omega)).cell (hA5.chg c6 (by omega)) hB6 hma6 hmb6 (fun q hq => ⟨by omega, by omega, by omega, by omega, fun h => (by have := hra q (.inl h); omega), fun h => (by have := hra q (.inr (.inl h)); omega), fun h => (by have := hra q (.inr (.inr h)); omega)⟩) (fun q hq => (by have := hra q hq; exact ⟨by omega, by omega⟩)) (by omega) (by omega) (by omega) ((hry.ext (g1.trans (g2.trans (g3.trans g4)))).chg c56 (by omega)) rfl (by omega) (by omega) ((hk0.ext (g1.trans (g2.trans (g3.trans g4)))).chg c56 fun q hq e => (by have := hkin q hq; have := hX0.size; omega)) hsl (Ext.of_new (hX0.trans (g1.trans (g2.trans (g3.trans g4)))) c56 fun q hq => by omega) hs hl sa sb n1 n2
   · refine nxVar (vs := [.bool false, .slice none 0 0, .slice none 0 0, .slice none 0 0]) rfl fun y2 hv2 g2 z2 => ⟨g2, ?_⟩
     have s2 := g2.size
     refine (node_own (ha0.ext (g1.trans (g2))) (by omega) (by omega) (by omega) kla vla).use ?_
     rintro _ y3 ⟨Ka, Va, Da, BKa, BVa, BDa, rfl, hma, g3⟩
     refine ⟨_, Ka, Va, Da, rfl, g3, ?_⟩
     have s3 := g3.size
     refine (node_own (hb0.ext (g1.trans (g2.trans (g3)))) (by omega) (by omega) (by omega) klb vlb).use ?_
     rintro _ y4 ⟨Kb, Vb, Db, BKb, BVb, BDb, rfl, hmb, g4⟩
     refine ⟨_, Kb, Vb, Db, rfl, g4, ?_⟩
     have s4 := g4.size
     have vA := hv1.ext (g2.trans (g3.trans (g4)))
     have vB := hv2.ext (g3.trans (g4))
     refine ⟨vA.storeOk rfl (nodePlain _ _ _ _), rfl, nxPut vA (us := [.bool a.leaf, .slice Ka.a Ka.len Ka.cap, .slice Va.a Va.len Va.cap, .slice Da.a Da.len Da.cap]) rfl rfl fun y5 hA5 c5 t5 => ?_⟩
     have vB5 := vB.chg c5 (by omega)
     refine ⟨vB5.storeOk rfl (nodePlain _ _ _ _), rfl, nxPut vB5 (us := [.bool b.leaf, .slice Kb.a Kb.len Kb.cap, .slice Vb.a Vb.len Vb.cap, .slice Db.a Db.len Db.cap]) rfl rfl fun y6 hB6 c6 t6 => ?_⟩
     obtain ⟨oa, hoa⟩ : ∃ oa, oa = y0.heap.size := ⟨_, rfl⟩
     obtain ⟨ob, hob⟩ : ∃ ob, ob = y1.heap.size := ⟨_, rfl⟩
     rw [← hoa] at hA5 c5
     rw [← hob] at hB6 c6
     rw [← hoa, ← hob]
     have c56 : Chg (fun q => q = oa ∨ q = ob) y4 y6 := (c5.mono fun q _ h => .inl h).trans (c6.mono fun q _ h => .inr h)
     have hma6 : NdMem lo y6 a Ka Va Da BKa BVa BDa := (((hma.ext g4).chg c56 fun q _ _ hq e => by have h9 : y2.heap.size ≤ q ∧ q < y3.heap.size := (by rcases hq with hq | hq | hq; exact ⟨(hma.bk q hq).1, (hma.bk q hq).2.1⟩; exact ⟨(hma.bv q hq).1, (hma.bv q hq).2.1⟩; exact hma.bd q hq); omega).low (by omega))
     have hmb6 : NdAt (fun q => y3.heap.size ≤ q ∧ q < y4.heap.size) y6 b Kb Vb Db := (hmb.at.weak fun q h1 h2 => ⟨h2, h1⟩).chg c56 fun q hq e => by omega
     have hra : ∀ q, BKa q ∨ BVa q ∨ BDa q → y2.heap.size ≤ q ∧ q < y3.heap.size := fun q hq => by
       rcases hq with hq | hq | hq
       · exact ⟨(hma.bk q hq).1, (hma.bk q hq).2.1⟩
       · exact ⟨(hma.bv q hq).1, (hma.bv q hq).2.1⟩
       · exact hma.bd q hq
     exact mergeTail (lo := lo) (wT := y6) (C := fun q => y3.heap.size ≤ q ∧ q < y4.heap.size) ((hpy.ext (g1.trans (g2.trans (g3.trans g4)))).chg c56 (by omega)).cell (hA5.chg c6 (by omega)) hB6 hma6 hmb6 (fun q hq => ⟨by omega, by omega, by omega, by omega, fun h => (by have := hra q (.inl h); omega), fun h => (by have := hra q (.inr (.inl h)); omega), fun h => (by have := hra q (.inr (.inr h)); omega)⟩) (fun q hq => (by have := hra q hq; exact ⟨by omega, by omega⟩)) (by omega) (by omega) (by omega) ((hry.ext (g1.trans (g2.trans (g3.trans g4)))).chg c56 (by omega)) rfl (by omega) (by omega) ((hk0.ext (g1.trans (g2.trans (g3.trans g4)))).chg c56 fun q hq e => (by have := hkin q hq; have := hX0.size; omega)) hsl (Ext.of_new (hX0.trans (g1.trans (g2.trans (g3.trans g4)))) c56 fun q hq => by omega) hs hl sa sb n1 n2
 · refine nxVar (vs := [.bool false, .slice none 0 0, .slice none 0 0, .slice none 0 0]) rfl fun y1 hv1 g1 z1 => ⟨g1, ?_⟩
   have s1 := g1.size
   refine ⟨?_, ?_⟩
   · refine (node_own (ha0.ext g1) (by omega) (by omega) (by omega) kla vla).use ?_
     rintro _ y2 ⟨Ka, Va, Da, BKa, BVa, BDa, rfl, hma, g2⟩
     refine ⟨_, Ka, Va, Da, rfl, g2, ?_⟩
     have s2 := g2.size
     refine ⟨?_, ?_⟩
     · refine (node_own (hb0.ext (g1.trans (g2))) (by omega) (by omega) (by omega) klb vlb).use ?_
       rintro _ y3 ⟨Kb, Vb, Db, BKb, BVb, BDb, rfl, hmb, g3⟩
       refine ⟨_, Kb, Vb, Db, rfl, g3, ?_⟩
       have s3 := g3.size
       refine nxVar (vs := [.bool false, .slice none 0 0, .slice none 0 0, .slice none 0 0]) rfl fun y4 hv4 g4 z4 => ⟨g4, ?_⟩
       have s4 := g4.size
       have vA := hv4
       have vB := hv1.ext (g2.trans (g3.trans (g4)))
       refine ⟨vA.storeOk rfl (nodePlain _ _ _ _), rfl, nxPut vA (us := [.bool a.leaf, .slice Ka.a Ka.len Ka.cap, .slice Va.a Va.len Va.cap, .slice Da.a Da.len Da.cap]) rfl rfl fun y5 hA5 c5 t5 => ?_⟩
       have vB5 := vB.chg c5 (by omega)
       refine ⟨vB5.storeOk rfl (nodePlain _ _ _ _), rfl, nxPut vB5 (us := [.bool b.leaf, .slice Kb.a Kb.len Kb.cap, .slice Vb.a Vb.len Vb.cap, .slice Db.a Db.len Db.cap]) rfl rfl fun y6 hB6 c6 t6 => ?_⟩
       obtain ⟨oa, hoa⟩ : ∃ oa, oa = y3.heap.size := ⟨_, rfl⟩
       obtain ⟨ob, hob⟩ : ∃ ob, ob = y0.heap.size := ⟨_, rfl⟩
       rw [← hoa] at hA5 c5
       rw [← hob] at hB6 c6
       rw [← hoa, ← hob]
       have c56 : Chg (fun q => q = oa ∨ q = ob) y4 y6 := (c5.mono fun q _ h => .inl h).trans (c6.mono fun q _ h => .inr h)
       have hma6 : NdMem lo y6 a Ka Va Da BKa BVa BDa := (((hma.ext (g3.trans (g4))).chg c56 fun q _ _ hq e => by have h9 : y1.heap.size ≤ q ∧ q < y2.heap.size := (by rcases hq with hq | hq | hq; exact ⟨(hma.bk q hq).1, (hma.bk q hq).2.1⟩; exact ⟨(hma.bv q hq).1, (hma.bv q hq).2.1⟩; exact hma.bd q hq); omega).low (by omega))
       have hmb6 : NdAt (fun q => y2.heap.size ≤ q ∧ q < y3.heap.size) y6 b Kb Vb Db := ((hmb.at.weak fun q h1 h2 => ⟨h2, h1⟩).ext g4).chg c56 fun q hq e => by omega
       have hra : ∀ q, BKa q ∨ BVa q ∨ BDa q → y1.heap.size ≤ q ∧ q < y2.heap.size := fun q hq => by
         rcases hq with hq | hq | hq
         · exact ⟨(hma.bk q hq).1, (hma.bk q hq).2.1⟩
         · exact ⟨(hma.bv q hq).1, (hma.bv q hq).2.1⟩
         · exact hma.bd q hq
       exact mergeTail (lo := lo) (wT := y6) (C := fun q => y2.heap.size ≤ q ∧ q < y3.heap.size) ((hpy.ext (g1.trans (g2.trans (g3.trans g4)))).chg c56 (by omega)).cell (hA5.chg c6 (by omega)) hB6 hma6 hmb6 (fun q hq => ⟨by omega, by omega, by omega, by omega, fun h => (by have := hra q (.inl h); omega), fun h => (by have := hra q (.inr (.inl h)); omega), fun h => (by have := hra q (.inr (.inr h)); omega)⟩) (fun q hq => (by have := hra q hq; exact ⟨by omega, by omega⟩)) (by omega) (by omega) (by omega) ((hry.ext (g1.trans (g2.trans (g3.trans g4)))).chg c56 (by omega)) rfl (by omega) (by omega) ((hk0.ext (g1.trans (g2.trans (g3.trans g4)))).chg c56 fun q hq e => (by have := hkin q hq; have := hX0.size; omega)) hsl (Ext.of_new (hX0.trans (g1.trans (g2.trans (g3.trans g4)))) c56 fun q hq => by omega) hs hl sa sb n1 n2
     · refine nxVar (vs := [.bool false, .slice none 0 0, .slice none 0 0, .slice none 0 0]) rfl fun y3 hv3 g3 z3 => ⟨g3, ?_⟩
       have s3 := g3.size
       refine (node_own (hb0.ext (g1.trans (g2.trans (g3)))) (by omega) (by omega) (by omega) klb vlb).use ?_
       rintro _ y4 ⟨Kb, Vb, Db, BKb, BVb, BDb, rfl, hmb, g4⟩
       refine ⟨_, Kb, Vb, Db, rfl, g4, ?_⟩
       have s4 := g4.size
       have vA := hv3.ext g4
       have vB := hv1.ext (g2.trans (g3.trans (g4)))
       refine ⟨vA.storeOk rfl (nodePlain _ _ _ _), rfl, nxPut vA (us := [.bool a.leaf, .slice Ka.a Ka.len Ka.cap, .slice Va.a Va.len Va.cap, .slice Da.a Da.len Da.cap]) rfl rfl fun y5 hA5 c5 t5 => ?_⟩
       have vB5 := vB.chg c5 (by omega)
       refine ⟨vB5.storeOk rfl (nodePlain _ _ _ _), rfl, nxPut vB5 (us := [.bool b.leaf, .slice Kb.a Kb.len Kb.cap, .slice Vb.a Vb.len Vb.cap, .slice Db.a Db.len Db.cap]) rfl rfl fun y6 hB6 c6 t6 => ?_⟩
       obtain ⟨oa, hoa⟩ : ∃ oa, oa = y2.heap.size := ⟨_, rfl⟩
       obtain ⟨ob, hob⟩ : ∃ ob, ob = y0.heap.size := ⟨_, rfl⟩
       rw [← hoa] at hA5 c5
       rw [← hob] at hB6 c6
       rw [← hoa, ← hob]
       have c56 : Chg (fun q => q = oa ∨ q = ob) y4 y6 := (c5.mono fun q _ h => .inl h).trans (c6.mono fun q _ h => .inr h)
       have hma6 : NdMem lo y6 a Ka Va Da BKa BVa BDa := (((hma.ext (g3.trans (g4))).chg c56 fun q _ _ hq e => by have h9 : y1.heap.size ≤ q ∧ q < y2.heap.size := (by rcases hq with hq | hq | hq; exact ⟨(hma.bk q hq).1, (hma.bk q hq).2.1⟩; exact ⟨(hma.bv q hq).1, (hma.bv q hq).2.1⟩; exact hma.bd q hq); omega).low (by omega))
       have hmb6 : NdAt (fun q => y3.heap.size ≤ q ∧ q < y4.heap.size) y6 b Kb Vb Db := (hmb.at.weak fun q h1 h2 => ⟨h2, h1⟩).chg c56 fun q hq e => by omega
       have hra : ∀ q, BKa q ∨ BVa q ∨ BDa q → y1.heap.size ≤ q ∧ q < y2.heap.size := fun q hq => by
         rcases hq with hq | hq | hq
         · exact ⟨(hma.bk q hq).1, (hma.bk q hq).2.1⟩
         · exact ⟨(hma.bv q hq).1, (hma.bv q hq).2.1⟩
         · exact hma.bd q hq
       exact mergeTail (lo := lo) (wT := y6) (C := fun q => y3.heap.size ≤ q ∧ q < y4.heap.size) ((hpy.ext (g1.trans (g2.trans (g3.trans g4)))).chg c56 (by omega)).cell (hA5.chg c6 (by omega)) hB6 hma6 hmb6 (fun q hq => ⟨by omega, by omega, by omega, by omega, fun h => (by have := hra q (.inl h); omega), fun h => (by have := hra q (.inr (.inl h)); omega), fun h => (by have := hra q (.inr (.inr h)); omega)⟩) (fun q hq => (by have := hra q hq; exact ⟨by omega, by omega⟩)) (by omega) (by omega) (by omega) ((hry.ext (g1.trans (g2.trans (g3.trans g4)))).chg c56 (by omega)) rfl (by omega) (by omega) ((hk0.ext (g1.trans (g2.trans (g3.trans g4)))).chg c56 fun q hq e => (by have := hkin q hq; have := hX0.size; omega)) hsl (Ext.of_new (hX0.trans (g1.trans (g2.trans (g3.trans g4)))) c56 fun q hq => by omega) hs hl sa sb n1 n2
   · refine nxVar (vs := [.bool false, .slice none 0 0, .slice none 0 0, .slice none 0 0]) rfl fun y2 hv2 g2 z2 => ⟨g2, ?_⟩
     have s2 := g2.size
     refine (node_own (ha0.ext (g1.trans (g2))) (by omega) (by omega) (by omega) kla vla).use ?_
     rintro _ y3 ⟨Ka, Va, Da, BKa, BVa, BDa, rfl, hma, g3⟩
     refine ⟨_, Ka, Va, Da, rfl, g3, ?_⟩
     have s3 := g3.size
     refine (node_own (hb0.ext (g1.trans (g2.trans (g3)))) (by omega) (by omega) (by omega) klb vlb).use ?_
     rintro _ y4 ⟨Kb, Vb, Db, BKb, BVb, BDb, rfl, hmb, g4⟩
     refine ⟨_, Kb, Vb, Db, rfl, g4, ?_⟩
     have s4 := g4.size
     have vA := hv2.ext (g3.trans (g4))
     have vB := hv1.ext (g2.trans (g3.trans (g4)))
     refine ⟨vA.storeOk rfl (nodePlain _ _ _ _), rfl, nxPut vA (us := [.bool a.leaf, .slice Ka.a Ka.len Ka.cap, .slice Va.a Va.len Va.cap, .slice Da.a Da.len Da.cap]) rfl rfl fun y5 hA5 c5 t5 => ?_⟩
     have vB5 := vB.chg c5 (by omega)
     refine ⟨vB5.storeOk rfl (nodePlain _ _ _ _), rfl, nxPut vB5 (us := [.bool b.leaf, .slice Kb.a Kb.len Kb.cap, .slice Vb.a Vb.len Vb.cap, .slice Db.a Db.len Db.cap]) rfl rfl fun y6 hB6 c6 t6 => ?_⟩
     obtain ⟨oa, hoa⟩ : ∃ oa, oa = y1.heap.size := ⟨_, rfl⟩
     obtain ⟨ob, hob⟩ : ∃ ob, ob = y0.heap.size := ⟨_, rfl⟩
     rw [← hoa] at hA5 c5
     rw [← hob] at hB6 c6
     rw [← hoa, ← hob]
     have c56 : Chg (fun q => q = oa ∨ q = ob) y4 y6 := (c5.mono fun q _ h => .inl h).trans (c6.mono fun q _ h => .inr h)
     have hma6 : NdMem lo y6 a Ka Va Da BKa BVa BDa := (((hma.ext g4).chg c56 fun q _ _ hq e => by have h9 : y2.heap.size ≤ q ∧ q < y3.heap.size := (by rcases hq with hq | hq | hq; exact ⟨(hma.bk q hq).1, (hma.bk q hq).2.1⟩; exact ⟨(hma.bv q hq).1, (hma.bv q hq).2.1⟩; exact hma.bd q hq); omega).low (by omega))
     have hmb6 : NdAt (fun q => y3.heap.size ≤ q ∧ q < y4.heap.size) y6 b Kb Vb Db := (hmb.at.weak fun q h1 h2 => ⟨h2, h1⟩).chg c56 fun q hq e => by omega
     have hra : ∀ q, BKa q ∨ BVa q ∨ BDa q → y2.heap.size ≤ q ∧ q < y3.heap.size := fun q hq => by
       rcases hq with hq | hq | hq
       · exact ⟨(hma.bk q hq).1, (hma.bk q hq).2.1⟩
       · exact ⟨(hma.bv q hq).1, (hma.bv q hq).2.1⟩
       · exact hma.bd q hq
     exact mergeTail (lo := lo) (wT := y6) (C := fun q => y3.heap.size ≤ q ∧ q < y4.heap.size) ((hpy.ext (g1.trans (g2.trans (g3.trans g4)))).chg c56 (by omega)).cell (hA5.chg c6 (by omega)) hB6 hma6 hmb6 (fun q hq => ⟨by omega, by omega, by omega, by omega, fun h => (by have := hra q (.inl h); omega), fun h => (by have := hra q (.inr (.inl h)); omega), fun h => (by have := hra q (.inr (.inr h)); omega)⟩) (fun q hq => (by have := hra q hq; exact ⟨by omega, by omega⟩)) (by omega) (by omega) (by omega) ((hry.ext (g1.trans (g2.trans (g3.trans g4)))).chg c56 (by omega)) rfl (by omega) (by omega) ((hk0.ext (g1.trans (g2.trans (g3.trans g4)))).chg c56 fun q hq e => (by have := hkin q hq; have := hX0.size; omega)) hsl (Ext.of_new (hX0.trans (g1.trans (g2.trans (g3.trans g4)))) c56 fun q hq => by omega) hs hl sa sb n1 n2
end Go.Proofs.YtplieiecebljmaaGreat
namespace Go.Proofs.YtplieiecebljmaaGreat
open Go Gx
section
variable {α : Type} {c : α → List Value} {sz : Nat}
def fl (c : α → List Value) (l : List α) : List Value := (l.map c).flatten
theorem fl_app (l m : List α) : fl c (l ++ m) = fl c l ++ fl c m := by simp [fl]
theorem fl_cons (x : α) (l : List α) : fl c (x :: l) = c x ++ fl c l := rfl
theorem fl_length : ∀ (l : List α), (∀ x ∈ l, (c x).length = sz) → (fl c l).length = l.length * sz
 | [], _ => by simp [fl]
 | x :: l, h => by
   rw [fl_cons, List.length_append, h x (by simp), fl_length l fun y hy => h y (by simp [hy]), List.length_cons, Nat.add_mul]; omega
theorem cut3 {l : List α} {i : Nat} (h : i < l.length) : l = l.take i ++ l[i] :: l.drop (i + 1) := by rw [← List.drop_eq_getElem_cons h, List.take_append_drop]
theorem fl_split {l : List α} (hc : ∀ x ∈ l, (c x).length = sz) {i : Nat} (h : i < l.length) : (fl c l).take (i * sz) = fl c (l.take i) ∧ (fl c l).drop (i * sz) = c l[i] ++ fl c (l.drop (i + 1)) := by
 have hl : (fl c (l.take i)).length = i * sz := by
   rw [fl_length _ fun x hx => hc x (List.mem_of_mem_take hx), List.length_take, Nat.min_eq_left (by omega)]
 have e : fl c l = fl c (l.take i) ++ (c l[i] ++ fl c (l.drop (i + 1))) := by
   conv => lhs; rw [cut3 h]
   rw [fl_app, fl_cons]
 rw [e]
 exact ⟨take_left2 hl, drop_left' hl⟩
theorem fl_part {l : List α} (hc : ∀ x ∈ l, (c x).length = sz) {i : Nat} (h : i < l.length) : ((fl c l).drop (i * sz)).take sz = c l[i] := by
 rw [(fl_split hc h).2]
 exact take_left2 (hc _ (List.getElem_mem h))
theorem fl_get {l : List α} (hc : ∀ x ∈ l, (c x).length = sz) {i j : Nat} (h : i < l.length) (hj : j < sz) : (fl c l)[i * sz + j]? = (c l[i])[j]? := by
 rw [← fl_part hc h, List.getElem?_take_of_lt hj, List.getElem?_drop]
theorem fl_set {l : List α} (hc : ∀ x ∈ l, (c x).length = sz) {i : Nat} (h : i < l.length) (x : α) : (fl c l).take (i * sz) ++ c x ++ (fl c l).drop (i * sz + sz) = fl c (l.set i x) := by
 have h1 := fl_split hc h
 have h2 : (fl c l).drop (i * sz + sz) = fl c (l.drop (i + 1)) := by
   rw [← List.drop_drop, h1.2]
   exact drop_left' (hc _ (List.getElem_mem h))
 rw [h1.1, h2, List.set_eq_take_append_cons_drop, if_pos h, fl_app, fl_cons, List.append_assoc]
theorem fl_set1 {l : List α} (hc : ∀ x ∈ l, (c x).length = sz) {i j : Nat} (h : i < l.length) (hj : j < sz) {x : α} {v : Value} (hx : c x = (c l[i]).set j v) : (fl c l).set (i * sz + j) v = fl c (l.set i x) := by
 have hl : (c l[i]).length = sz := hc _ (List.getElem_mem h)
 have h1 := fl_split hc h
 have e : fl c l = fl c (l.take i) ++ (c l[i] ++ fl c (l.drop (i + 1))) := by
   conv => lhs; rw [← List.take_append_drop (i * sz) (fl c l), h1.1, h1.2]
 have hl1 : (fl c (l.take i)).length = i * sz := by
   rw [fl_length _ fun x hx => hc x (List.mem_of_mem_take hx), List.length_take, Nat.min_eq_left (by omega)]
 rw [e, List.set_append_right _ _ (by omega), show i * sz + j - (fl c (l.take i)).length = j by omega, List.set_append_left _ _ (by omega), ← hx, List.set_eq_take_append_cons_drop, if_pos h, fl_app, fl_cons]
end
section
variable {α : Type} [DecidableEq α] {P : Program} {w : World} {kT eT T : TypeId} {enc : α → Value} {r : Nat} {M : List (α × Value)} {k : α} {v : Value}
theorem mapK_upd_new (hK : KeyT P kT enc) (hT : P.underlying T = some (.map kT eT)) (h : MapK w r enc M) (hm : ∀ v, (k, v) ∉ M) (v : Value) :
   ∃ w1 : World, (Instr.mapUpdate T (.map (some r)) (enc k) v).run P w = .ok () w1 ∧ Chg (fun q => q = r) w w1 ∧ w1.heap.size = w.heap.size ∧ MapK w1 r enc ((k, v) :: M) := by
 have hlt := h.lt
 obtain ⟨L, clk, h, h1, h2, h3, h4⟩ := h
 have hab := absent h1 hm
 have hf := hK.find L k w
 rw [lkM_none hab] at hf
 refine ⟨setO w r (.map ((L.map (entM enc)).toArray.push ⟨enc k, v, clk⟩) (clk + 1)), ?_, setO_chg _ _ _, setO_size _ _ _, L ++ [(k, v, clk)], clk + 1, ?_, ?_, ?_, ?_, ?_⟩
 · simp only [Instr.mapUpdate, Sem.run_bind, run_underlying' hT, Result.andThen, run_getObjM h, Sem.run_pure, hK.check, hf, run_setObjM h]
 · rw [setO_get hlt]
   simp [entM]
 · rw [List.map_append]
   have : ([(k, v, clk)] : List (α × Value × Nat)).map kvM = [(k, v)] := rfl
   rw [this]
   exact (List.perm_append_comm).trans (List.Perm.cons _ h1)
 · rw [List.map_append, List.nodup_append]
   refine ⟨h2, by simp, fun a ha b hb => ?_⟩
   obtain ⟨x, hx, rfl⟩ := List.mem_map.1 ha
   simp only [List.map_cons, List.map_nil, List.mem_singleton] at hb
   subst hb
   exact hab x hx
 · rw [List.map_append, List.nodup_append]
   refine ⟨h3, by simp, fun a ha b hb => ?_⟩
   obtain ⟨x, hx, rfl⟩ := List.mem_map.1 ha
   simp only [List.map_cons, List.map_nil, List.mem_singleton] at hb
   subst hb
   have := h4 x hx
   omega
 · intro x hx
   rcases List.mem_append.1 hx with hx | hx
   · have := h4 x hx; omega
   · rw [List.mem_singleton.1 hx]; show clk < clk + 1; omega
theorem mapK_upd_old (hK : KeyT P kT enc) (hT : P.underlying T = some (.map kT eT)) (h : MapK w r enc ((k, v) :: M)) (v' : Value) :
   ∃ w1 : World, (Instr.mapUpdate T (.map (some r)) (enc k) v').run P w = .ok () w1 ∧ Chg (fun q => q = r) w w1 ∧ w1.heap.size = w.heap.size ∧ MapK w1 r enc ((k, v') :: M) := by
 have hlt := h.lt
 obtain ⟨n, L1, L2, n', clk, h, h1, h2, h3, h4, _⟩ := h.split
 have hf := hK.find (L1 ++ (k, v, n') :: L2) k w
 rw [lkM_at (nodup_front h2), Nat.zero_add] at hf
 have hg : ((L1 ++ (k, v, n') :: L2).map (entM enc)).toArray[L1.length]? = some ⟨enc k, v, n'⟩ := by simp [entM]
 have hmod : ((L1 ++ (k, v, n') :: L2).map (entM enc)).toArray.modify L1.length (fun e => { e with key := enc k, val := v' }) = ((L1 ++ (k, v', n') :: L2).map (entM enc)).toArray := by
   apply Array.toList_inj.1
   rw [Array.toList_modify, List.map_append, List.map_cons]
   have := modify_at (fun e => { e with key := enc k, val := v' }) (entM enc (k, v, n')) (L2.map (entM enc)) (L1.map (entM enc))
   rw [List.length_map] at this
   rw [this]
   simp [entM]
 refine ⟨setO w r (.map ((L1 ++ (k, v', n') :: L2).map (entM enc)).toArray clk), ?_, setO_chg _ _ _, setO_size _ _ _, L1 ++ (k, v', n') :: L2, clk, setO_get hlt _, ?_, ?_, ?_, ?_⟩
 · simp only [Instr.mapUpdate, Sem.run_bind, run_underlying' hT, Result.andThen, run_getObjM h, Sem.run_pure, hK.check, hf, hg, Option.map_some, Option.getD_some, Instr.keyThatStays, hK.bits, if_true, run_setObjM h, hmod]
 · rw [List.map_append, List.map_cons]
   rw [List.map_append] at h1
   exact List.perm_middle.trans (h1.cons _)
 · simpa using h2
 · simpa using h3
 · intro x hx
   rcases List.mem_append.1 hx with hx | hx
   · exact h4 x (by simp [hx])
   · rcases List.mem_cons.1 hx with rfl | hx
     · exact h4 (k, v, n') (by simp)
     · exact h4 x (by simp [hx])
end
abbrev Sec := List UInt8
structure Wt where
 i : Nat
 s : Sl
 secs : List Sec
structure Dv where
 d : Nat
 lb : Nat
 mr : Nat
 fz : List Int
 lasts : List Sec
 waits : List Wt
 writes : Int
 ld : Nat
def Wt.e (x : Wt) : Int × Value := ((x.i : Int), .slice x.s.a x.s.len x.s.cap)
def Dv.c (D : Dv) : List Value := D.fz.map (.int .i64) ++ [.slice (some ⟨D.lb, 0, none⟩) D.lasts.length D.lasts.length, .map (some D.mr), .int .i64 D.writes]
def Dv.n (D : Dv) : Nat := D.lasts.length
abbrev encZ : Int → Value := fun n => .int .i64 n
theorem keyZ : KeyT Tryz.prog Ty.int encZ := KeyT.int (by kernel_rfl)
theorem mapTZ : Tryz.prog.underlying Ty.map_int_Sl_dev_sector = some (.map Ty.int Ty.Sl_dev_sector) := by kernel_rfl
theorem zeroSec : (Tryz.prog.info? Ty.Sl_dev_sector).bind (·.zero) = some (.slice none 0 0) := by kernel_rfl
theorem infoZ' {P : Program} {T : TypeId} {z : Value} (h : (P.info? T).bind (·.zero) = some z) : ∃ i, P.info? T = some i ∧ i.zero = some z := by
 cases hi : P.info? T with
 | none => rw [hi] at h; cases h
 | some i => rw [hi] at h; exact ⟨i, rfl, h⟩
def fpD (D : Dv) (q : Nat) : Prop := q = D.d ∨ q = D.lb ∨ q = D.mr ∨ ∃ x ∈ D.waits, ownB x.s q
structure DevAt (w : World) (D : Dv) : Prop where
 v : Var w D.d D.c Ty.dev_Device
 l : Blk w D.lb (fl u8s D.lasts).toArray Ty.dev_sector
 m : MapK w D.mr encZ (D.waits.map Wt.e)
 ws : ∀ x ∈ D.waits, OwnS 256 Ty.dev_sector w x.s (fl u8s x.secs)
 wn : ∀ x ∈ D.waits, x.secs ≠ [] ∧ x.i < D.n ∧ x.secs.length ≤ D.ld
 sl : ∀ s ∈ D.lasts, s.length = 256
 sw : ∀ x ∈ D.waits, ∀ s ∈ x.secs, s.length = 256
 n1 : 16 ≤ D.n
 n2 : D.n ≤ 1600
 f4 : D.fz.length = 4
 fr : ∀ x ∈ D.fz, -1 ≤ x ∧ x ≤ 9223372036854775807
 a1 : D.d ≠ D.lb ∧ D.d ≠ D.mr ∧ D.lb ≠ D.mr
 a2 : ∀ x ∈ D.waits, ¬ ownB x.s D.d ∧ ¬ ownB x.s D.lb ∧ ¬ ownB x.s D.mr
 a3 : ∀ x ∈ D.waits, ∀ y ∈ D.waits, x.i ≠ y.i → ∀ q, ownB x.s q → ¬ ownB y.s q
section
variable {w w' : World} {D : Dv}
theorem DevAt.chg {W : Nat → Prop} (h : DevAt w D) (hc : Chg W w w') (hn : ∀ q, fpD D q → ¬ W q) : DevAt w' D :=
 ⟨h.v.chg hc (hn _ (.inl rfl)), Blk.chg h.l hc (hn _ (.inr (.inl rfl))), h.m.chg hc (hn _ (.inr (.inr (.inl rfl)))), fun x hx => (h.ws x hx).chg hc fun q hq => hn q (.inr (.inr (.inr ⟨x, hx, hq⟩))), h.wn, h.sl, h.sw, h.n1, h.n2, h.f4, h.fr, h.a1, h.a2, h.a3⟩
theorem DevAt.ext (h : DevAt w D) (hc : Ext w w') : DevAt w' D := h.chg hc fun _ _ h => h
theorem DevAt.lt (h : DevAt w D) {q : Nat} (hq : fpD D q) : q < w.heap.size := by
 rcases hq with rfl | rfl | rfl | ⟨x, hx, hq⟩
 · exact h.v.lt
 · exact Blk.lt h.l
 · exact h.m.lt
 · exact (h.ws x hx).lt q hq
theorem DevAt.fuse (h : DevAt w D) {k : Nat} (hk : k < 4) : w.cell? ⟨D.d, k, none⟩ = some (.int .i64 (D.fz.getD k 0)) := by
 rw [h.v.cell]
 unfold Dv.c
 have := h.f4
 rw [List.getElem?_append_left (by rw [List.length_map]; omega), List.getElem?_map, List.getElem?_eq_getElem (by omega), getD_lt (by omega)]
 rfl
theorem DevAt.c4 (h : DevAt w D) : w.cell? (Addr.add ⟨D.d, 0, none⟩ 4) = some (.slice (some ⟨D.lb, 0, none⟩) D.lasts.length D.lasts.length) := by
 rw [add_mk, h.v.cell]
 unfold Dv.c
 have := h.f4
 rw [List.getElem?_append_right (by rw [List.length_map]; omega), List.length_map, this]; rfl
theorem DevAt.c5 (h : DevAt w D) : w.cell? (Addr.add ⟨D.d, 0, none⟩ 5) = some (.map (some D.mr)) := by
 rw [add_mk, h.v.cell]
 unfold Dv.c
 have := h.f4
 rw [List.getElem?_append_right (by rw [List.length_map]; omega), List.length_map, this]; rfl
theorem DevAt.clen (h : DevAt w D) : D.c.length = 7 := by
 unfold Dv.c
 have := h.f4
 simp; omega
def Dv.now (D : Dv) (i : Nat) : Sec := match D.waits.find? fun x => x.i == i with
 | some x => x.secs.getLastD []
 | none => D.lasts.getD i []
theorem getLastD_mem {α : Type} {l : List α} {d : α} (h : l ≠ []) : l.getLastD d ∈ l := by
 cases l with
 | nil => exact absurd rfl h
 | cons a l =>
   rw [List.getLastD_cons]
   rw [← List.getLast_eq_getLastD]
   exact List.getLast_mem h
theorem DevAt.nowLen (h : DevAt w D) {i : Nat} (hi : i < D.n) : (D.now i).length = 256 := by
 unfold Dv.now
 cases hf : D.waits.find? fun x => x.i == i with
 | some x =>
   have hx := List.mem_of_find?_eq_some hf
   exact h.sw x hx _ (getLastD_mem (h.wn x hx).1)
 | none =>
   have hi' : i < D.lasts.length := hi
   rw [show (match (none : Option Wt) with | some x => x.secs.getLastD [] | none => D.lasts.getD i []) = D.lasts.getD i [] from rfl, getD_lt hi']
   exact h.sl _ (List.getElem_mem _)
theorem dev_Len (h : DevAt w D) : Ret Tryz.prog F.dev_Device_Len #[.pointer (some ⟨D.d, 0, none⟩)] w (fun v w' => v = .int .i64 (D.n : Nat) ∧ w = w') := by
 refine W.dev_Device_Len_ok (some ⟨D.d, 0, none⟩) w _ ?_
 (delta W.dev_Device_Len Br r1; dsimp only)
 exact ⟨fun h => (by cases h), fun _ => ⟨_, rfl, ⟨some ⟨D.lb, 0, none⟩, D.lasts.length, D.lasts.length⟩, h.c4, rfl, rfl⟩⟩
theorem dev_has (h : DevAt w D) (i : Int) : Ret Tryz.prog F.dev_Device_has #[.pointer (some ⟨D.d, 0, none⟩), .int .i64 i] w (fun v w' => v = .bool (decide (0 ≤ i ∧ i < D.n)) ∧ w = w') := by
 refine W.dev_Device_has_ok (some ⟨D.d, 0, none⟩) i w _ ?_
 (delta W.dev_Device_has Br r1; dsimp only)
 refine Jn1 (fun b w' => b = decide (0 ≤ i ∧ i < D.n) ∧ w = w') (fun q hq => ⟨fun hb => ⟨_, rfl, ⟨some ⟨D.lb, 0, none⟩, D.lasts.length, D.lasts.length⟩, h.c4, hq _ _ ⟨?_, rfl⟩⟩, fun hb => hq _ _ ⟨?_, rfl⟩⟩) ?_
 · have hb : 0 ≤ i := by simpa using hb
   rw [Bool.eq_iff_iff, decide_eq_true_eq, decide_eq_true_eq]
   exact ⟨fun h => ⟨hb, h⟩, fun h => h.2⟩
 · have hb : ¬ 0 ≤ i := by simpa using hb
   rw [decide_eq_false (fun h => hb h.1)]
 · rintro _ _ ⟨rfl, rfl⟩
   exact ⟨rfl, rfl⟩
end
def burnF (f : Int) : Bool × Int := if f = -1 then (false, -1) else if f = 0 then (true, -1) else (false, f - 1)
theorem burnF_ok {f : Int} (h : -1 ≤ f ∧ f ≤ 9223372036854775807) : -1 ≤ (burnF f).2 ∧ (burnF f).2 ≤ 9223372036854775807 := by
 unfold burnF
 split
 · exact ⟨by decide, by decide⟩
 · split
   · exact ⟨by decide, by decide⟩
   · show -1 ≤ f - 1 ∧ f - 1 ≤ _; omega
def Dv.burn (D : Dv) (k : Nat) : Dv := { D with fz := D.fz.set k (burnF (D.fz.getD k 0)).2 }
def Dv.burns (D : Dv) (k : Nat) : Bool := (burnF (D.fz.getD k 0)).1
theorem dev_burns {w : World} {D : Dv} (h : DevAt w D) {k : Nat} (hk : k < 4) :
   Ret Tryz.prog F.dev_fuses_burns #[.pointer (some ⟨D.d, 0, none⟩), .int .i64 ((k : Nat) : Int)] w (fun v w' => v = .bool (D.burns k) ∧ DevAt w' (D.burn k) ∧ Chg (fun q => q = D.d) w w' ∧ w'.heap.size = w.heap.size) := by
 have hf := h.fuse hk
 have h4 := h.f4
 have hr : -1 ≤ D.fz.getD k 0 ∧ D.fz.getD k 0 ≤ 9223372036854775807 := by rw [getD_lt (by omega)]; exact h.fr _ (List.getElem_mem _)
 have hset : ∀ (w1 : World), DevAt w1 D → DevAt (w1.setCell ⟨D.d, k, none⟩ (.int .i64 (burnF (D.fz.getD k 0)).2)) (D.burn k) := by
   intro w1 h1
   have hc := chgSet w1 D.d k (.int .i64 (burnF (D.fz.getD k 0)).2)
   have hv := varSet h1.v (i := k) (.int .i64 (burnF (D.fz.getD k 0)).2)
   have e : D.c.set k (.int .i64 (burnF (D.fz.getD k 0)).2) = (D.burn k).c := by
     unfold Dv.c Dv.burn
     rw [List.set_append_left _ _ (by rw [List.length_map]; omega), ← List.map_set]
   rw [e] at hv
   refine ⟨hv, Blk.chg h1.l hc (fun e => h.a1.1 e.symm), h1.m.chg hc (fun e => h.a1.2.1 e.symm), fun x hx => (h1.ws x hx).chg hc fun q hq e => (h.a2 x hx).1 (by subst e; exact hq), h.wn, h.sl, h.sw, h.n1, h.n2, by show (D.fz.set k _).length = 4; rw [List.length_set]; exact h4, fun x hx => ?_, h.a1, h.a2, h.a3⟩
   rcases List.mem_or_eq_of_mem_set hx with hx | rfl
   · exact h.fr x hx
   · exact burnF_ok hr
 have ha : Addr.add ⟨D.d, 0, none⟩ (Int.toNat ((k : Nat) : Int) * 1) = ⟨D.d, k, none⟩ := by rw [Int.toNat_natCast, Nat.mul_one, add_mk, Nat.zero_add]
 refine W.dev_fuses_burns_ok (some ⟨D.d, 0, none⟩) ((k : Nat) : Int) w _ ?_
 (delta W.dev_fuses_burns r2 Br st wI; dsimp only)
 refine ⟨_, rfl, ⟨by omega, by show (k : Int) < 4; omega⟩, D.fz.getD k 0, by rw [ha]; exact hf, fun h1 => ?_, fun h1 => ⟨fun h2 => ⟨_, rfl, ⟨by omega, by show (k : Int) < 4; omega⟩, ?_⟩, fun h2 => nx ⟨_, rfl, ⟨by omega, by show (k : Int) < 4; omega⟩, id, _, by rw [ha]; exact hf, _, rfl, ⟨by omega, by show (k : Int) < 4; omega⟩, ?_⟩⟩⟩
 · have h1 : D.fz.getD k 0 = -1 := by simpa using h1
   have e1 : D.burns k = false := by unfold Dv.burns burnF; rw [if_pos h1]
   have e2 : D.burn k = D := by
     unfold Dv.burn burnF
     rw [if_pos h1]
     have : D.fz.set k (-1) = D.fz := by
       rw [← h1, getD_lt (by omega)]
       exact List.set_getElem_self _
     rw [this]
   rw [e1, e2]
   exact ⟨rfl, h, .refl _ _, rfl⟩
 · have h1 : D.fz.getD k 0 ≠ -1 := by simpa using h1
   have h2 : D.fz.getD k 0 = 0 := by simpa using h2
   have hs := setOk h.v (i := k) (by rw [h.clen]; omega)
   have e1 : D.burns k = true := by unfold Dv.burns burnF; rw [if_neg h1, if_pos h2]
   have e2 : (burnF (D.fz.getD k 0)).2 = -1 := by unfold burnF; rw [if_neg h1, if_pos h2]
   have := hset w h
   rw [e2] at this
   rw [ha, e1]
   exact ⟨hs.1, hs.2, nx ⟨rfl, this, chgSet _ _ _ _, by simp [World.setCell]⟩⟩
 · have h1 : D.fz.getD k 0 ≠ -1 := by simpa using h1
   have h2 : D.fz.getD k 0 ≠ 0 := by simpa using h2
   have hd := h.ext (ext_drew w)
   have hs := setOk hd.v (i := k) (by rw [h.clen]; omega)
   have e1 : D.burns k = false := by unfold Dv.burns burnF; rw [if_neg h1, if_neg h2]
   have e2 : (burnF (D.fz.getD k 0)).2 = D.fz.getD k 0 - 1 := by unfold burnF; rw [if_neg h1, if_neg h2]
   have := hset w.drew hd
   rw [e2] at this
   rw [ha, e1, wrapi (by omega) (by omega)]
   exact ⟨hs.1, hs.2, nx ⟨rfl, this, (Chg.of_ext (ext_drew w)).trans (chgSet _ _ _ _), by simp [World.setCell]⟩⟩
end Go.Proofs.YtplieiecebljmaaGreat
namespace Go.Proofs.YtplieiecebljmaaGreat
open Go Gx
def Dv.secsAt (D : Dv) (i : Nat) : List Sec := match D.waits.find? fun x => x.i == i with
 | some x => x.secs
 | none => []
def Dv.calm (D : Dv) (k : Nat) : Prop := (D.fz.getD 1 0 = -1 ∨ (k : Int) ≤ D.fz.getD 1 0) ∧ (D.fz.getD 2 0 = -1 ∨ (k : Int) ≤ D.fz.getD 2 0)
theorem chgGrow {W V : Nat → Prop} {w w' w'' : World} (h1 : Chg W w w') (h2 : Chg V w' w'') (h : ∀ q, q < w.heap.size → V q → W q) : Chg W w w'' :=
 ⟨h2.os.trans h1.os, h2.tape.trans h1.tape, h2.output.trans h1.output, Nat.le_trans h1.size h2.size, fun k hk hW => (h2.block k (Nat.lt_of_lt_of_le hk h1.size) fun hv => hW (h k hk hv)).trans (h1.block k hk hW)⟩
theorem calm_mono {D : Dv} {k l : Nat} (h : D.calm k) (hl : l ≤ k) : D.calm l := ⟨h.1.imp id fun h => by omega, h.2.imp id fun h => by omega⟩
theorem calm_burn {D : Dv} {k m : Nat} (hk : k = 1 ∨ k = 2) (h4 : D.fz.length = 4) (h : D.calm (m + 1)) : (D.burn k).calm m ∧ D.burns k = false := by
 obtain ⟨h1, h2⟩ := h
 have l1 : 1 < D.fz.length := by omega
 have l2 : 2 < D.fz.length := by omega
 rcases hk with rfl | rfl
 · have e1 : (D.burn 1).fz.getD 1 0 = (burnF (D.fz.getD 1 0)).2 := by
     show (D.fz.set 1 _).getD 1 0 = _
     rw [getD_lt (by rw [List.length_set]; omega), List.getElem_set_self]
   have e2 : (D.burn 1).fz.getD 2 0 = D.fz.getD 2 0 := by
     show (D.fz.set 1 _).getD 2 0 = _
     rw [getD_lt (by rw [List.length_set]; omega), List.getElem_set_ne (by omega), getD_lt l2]
   unfold Dv.calm Dv.burns
   rw [e1, e2]
   unfold burnF
   rcases h1 with h1 | h1
   · rw [if_pos h1]
     exact ⟨⟨.inl rfl, h2.imp id fun h => by omega⟩, rfl⟩
   · rw [if_neg (by omega), if_neg (by omega)]
     exact ⟨⟨.inr (by show (m : Int) ≤ _ - 1; omega), h2.imp id fun h => by omega⟩, rfl⟩
 · have e1 : (D.burn 2).fz.getD 2 0 = (burnF (D.fz.getD 2 0)).2 := by
     show (D.fz.set 2 _).getD 2 0 = _
     rw [getD_lt (by rw [List.length_set]; omega), List.getElem_set_self]
   have e2 : (D.burn 2).fz.getD 1 0 = D.fz.getD 1 0 := by
     show (D.fz.set 2 _).getD 1 0 = _
     rw [getD_lt (by rw [List.length_set]; omega), List.getElem_set_ne (by omega), getD_lt l1]
   unfold Dv.calm Dv.burns
   rw [e1, e2]
   unfold burnF
   rcases h2 with h2 | h2
   · rw [if_pos h2]
     exact ⟨⟨h1.imp id fun h => by omega, .inl rfl⟩, rfl⟩
   · rw [if_neg (by omega), if_neg (by omega)]
     exact ⟨⟨h1.imp id fun h => by omega, .inr (by show (m : Int) ≤ _ - 1; omega)⟩, rfl⟩
theorem srcPart {sz : Nat} {w : World} {s : Sl} {α : Type} {c : α → List Value} {l : List α} (h : Src sz w s (fl c l)) (hc : ∀ x ∈ l, (c x).length = sz) (hsz : 0 < sz) {i : Nat} (hi : i < l.length) :
   s.len = l.length ∧ ∃ A, s.a = some A ∧ rdCells w (A.add (i * sz)) 0 sz = some (c l[i]) := by
 have hl : s.len = l.length := by
   have := h.len
   rw [fl_length l hc] at this
   exact (Nat.eq_of_mul_eq_mul_right hsz this).symm
 refine ⟨hl, ?_⟩
 cases ha : s.a with
 | none =>
   have := congrArg List.length (h.nil ha)
   rw [fl_length l hc, List.length_nil] at this
   have : l.length * sz ≠ 0 := Nat.mul_ne_zero (by omega) (by omega)
   omega
 | some A =>
   refine ⟨A, rfl, ?_⟩
   have hle : i * sz + sz ≤ s.len * sz := by
     rw [hl, ← Nat.succ_mul]
     exact Nat.mul_le_mul_right _ hi
   rw [rdPart (h.rd A ha) hle, fl_part hc hi]
def zero256 : List Value := u8s (List.replicate 256 0)
def NowR (D : Dv) (i : Nat) (w : World) (v : Value) (w' : World) : Prop := v = .agg (u8s (D.now i)).toArray ∧ Ext w w'
theorem dev_now {w : World} {D : Dv} (h : DevAt w D) {i : Nat} (hi : i < D.n) (hld : D.ld ≤ 1000000000) :
   Ret Tryz.prog F.dev_Device_now #[.pointer (some ⟨D.d, 0, none⟩), .int .i64 ((i : Nat) : Int)] w (NowR D i w) := by
 have hn2 := h.n2
 have hnl := h.nowLen hi
 refine W.dev_Device_now_ok (some ⟨D.d, 0, none⟩) ((i : Nat) : Int) w _ ?_
 (delta W.dev_Device_now z2 Br wI T18 nA r1 ix; dsimp only)
 refine nxVar (vs := zero256) (by kernel_rfl) fun w1 hv hx1 _ => ?_
 have hd := h.ext hx1
 refine ⟨_, rfl, some D.mr, hd.c5, ?_⟩
 have hzl : zero256.length = 256 := by rw [zero256, u8s_length, List.length_replicate]
 have fin : ∀ (K : List Value → World → Prop), (∀ w8, Ext w w8 → K (u8s (D.now i)) w8) → StoreOk w1 ⟨w.heap.size, 0, none⟩ (Array.toList (u8s (D.now i)).toArray) ∧ Array.size (u8s (D.now i)).toArray = 256 ∧ Nx (setCells w1 ⟨w.heap.size, 0, none⟩ 0 (Array.toList (u8s (D.now i)).toArray)) fun w8 => ∃ l9 : List Value, rdCells w8 ⟨w.heap.size, 0, none⟩ 0 256 = some l9 ∧ K l9 w8 := by
   intro K hK
   refine ⟨hv.storeOk (by rw [List.toList_toArray, u8s_length, hnl, hzl]) (by rw [List.toList_toArray]; exact u8s_plain _), by simp [u8s_length, hnl], nxPut hv (us := u8s (D.now i)) (by rw [u8s_length, hnl, hzl]) rfl fun w8 hv8 hc8 _ => ⟨_, hv8.rd (by rw [u8s_length, hnl]), hK w8 (Ext.of_chg hx1 hc8 (Nat.le_refl _))⟩⟩
 cases hf : D.waits.find? fun x => x.i == i with
 | some x =>
   have hx := List.mem_of_find?_eq_some hf
   have hxi : x.i = i := by
     have := List.find?_some hf
     exact eq_of_beq this
   have hl := hd.m.lookup_some keyZ mapTZ (k := (i : Int)) (v := .slice x.s.a x.s.len x.s.cap) (List.mem_map.2 ⟨x, hx, by unfold Wt.e; rw [hxi]⟩) false
   have hne := (h.wn x hx).1
   have hlen : 0 < x.secs.length := List.length_pos_iff.2 hne
   have hmx := (h.wn x hx).2.2
   obtain ⟨hsl, A, hA, hrd⟩ := srcPart (hd.ws x hx).src (fun s hs => by rw [u8s_length]; exact h.sw x hx s hs) (by decide) (i := x.secs.length - 1) (by omega)
   have hnow : D.now i = x.secs[x.secs.length - 1]'(by omega) := by
     unfold Dv.now
     rw [hf]
     show x.secs.getLastD [] = _
     rw [List.getLastD_eq_getLast?, List.getLast?_eq_getElem?, List.getElem?_eq_getElem (by omega)]
     rfl
   refine ⟨x.s, w1, hl, fun _ => ⟨A, hA, ?_⟩, fun hz => ?_⟩
   · rw [hsl, wrapi (n := ((x.secs.length : Nat) : Int) - 1) (by omega) (by omega)]
     have et : Int.toNat (((x.secs.length : Nat) : Int) - 1) = x.secs.length - 1 := by omega
     rw [et]
     refine ⟨⟨by omega, by omega⟩, _, hrd, ?_⟩
     rw [← hnow]
     exact fin (fun l9 w8 => NowR D i w (.agg l9.toArray) w8) fun w8 hx8 => ⟨rfl, hx8⟩
   · have := of_decide_eq_false hz
     omega
 | none =>
   obtain ⟨ti, h1, h2⟩ := infoZ' zeroSec
   have hl := hd.m.lookup_none keyZ mapTZ (k := (i : Int)) h1 h2 (fun v hv => by
     obtain ⟨x, hx, he⟩ := List.mem_map.1 hv
     have h3 := List.find?_eq_none.1 hf x hx
     unfold Wt.e at he
     simp only [Prod.mk.injEq] at he
     apply h3
     have : x.i = i := by omega
     rw [this]; simp) false
   have hi' : i < D.lasts.length := hi
   have hnow : D.now i = D.lasts[i] := by
     unfold Dv.now
     rw [hf]
     exact getD_lt hi'
   have hsrc : Src 256 w1 ⟨some ⟨D.lb, 0, none⟩, D.lasts.length, D.lasts.length⟩ (fl u8s D.lasts) := by
     have hfl := fl_length (c := u8s) (sz := 256) D.lasts fun s hs => by rw [u8s_length]; exact h.sl s hs
     have := Blk.srcAt (sz := 256) (o := 0) (n := D.lasts.length) (cap := D.lasts.length) hd.l (by simp [hfl])
     rw [List.drop_zero, List.toList_toArray, List.take_of_length_le (by rw [hfl]; exact Nat.le_refl _)] at this
     exact this
   obtain ⟨hsl, A, hA, hrd⟩ := srcPart hsrc (fun s hs => by rw [u8s_length]; exact h.sl s hs) (by decide) hi'
   refine ⟨⟨none, 0, 0⟩, w1, hl, fun hz => by simp at hz, fun _ => ⟨_, rfl, _, hd.c4, A, hA, ⟨by omega, by show (i : Int) < ((D.lasts.length : Nat) : Int); omega⟩, _, hrd, ?_⟩⟩
   rw [← hnow]
   exact fin (fun l9 w8 => NowR D i w (.agg l9.toArray) w8) fun w8 hx8 => ⟨rfl, hx8⟩
def ReadR (D : Dv) (i : Nat) (w : World) (v : Value) (w' : World) : Prop :=
 DevAt w' (D.burn 1) ∧ Chg (fun q => q = D.d) w w' ∧
   ((D.burns 1 = true ∧ v = .tuple #[.slice none 0 0, .int .i64 3]) ∨
    (D.burns 1 = false ∧ ∃ s : Sl, v = .tuple #[.slice s.a s.len s.cap, .int .i64 0] ∧ Tx (fun q => w.heap.size ≤ q) w' s (D.now i)))
theorem dev_Read {w : World} {D : Dv} (h : DevAt w D) {i : Nat} (hi : i < D.n) (hld : D.ld ≤ 1000000000) :
   Ret Tryz.prog F.dev_Device_Read #[.pointer (some ⟨D.d, 0, none⟩), .int .i64 ((i : Nat) : Int)] w (ReadR D i w) := by
 refine W.dev_Device_Read_ok (some ⟨D.d, 0, none⟩) ((i : Nat) : Int) w _ ?_
 (delta W.dev_Device_Read c3 Br c8 c10 z2 nA; dsimp only)
 refine (dev_has h _).use ?_
 rintro _ _ ⟨rfl, rfl⟩
 refine ⟨_, rfl, fun hb => ?_, fun _ => ⟨_, rfl, (dev_burns h (k := 1) (by decide)).use ?_⟩⟩
 · have hb : ¬ (0 ≤ (i : Int) ∧ (i : Int) < D.n) := by simpa using hb
   omega
 rintro _ w2 ⟨rfl, hd2, hc2, hz2⟩
 refine ⟨_, rfl, fun hb => ⟨hd2, hc2, .inl ⟨hb, rfl⟩⟩, fun hb => (dev_now hd2 (i := i) hi hld).use ?_⟩
 rintro _ w3 ⟨rfl, hx3⟩
 have hnl := h.nowLen hi
 refine ⟨_, rfl, nxVar (vs := zero256) (by kernel_rfl) fun w4 hv4 hx4 hz4 => ⟨hv4.storeOk (by rw [List.toList_toArray, u8s_length]; show (D.now i).length = _; rw [hnl, zero256, u8s_length, List.length_replicate]) (by rw [List.toList_toArray]; exact u8s_plain _), by rw [List.size_toArray, u8s_length]; exact hnl, nxPut hv4 (us := u8s (D.now i)) (by rw [u8s_length, hnl, zero256, u8s_length, List.length_replicate]) rfl fun w5 hv5 hc5 hz5 => ?_⟩⟩
 have hzx := hx3.size
 have hlt : D.d < w2.heap.size := hd2.v.lt
 refine ⟨(hd2.ext (hx3.trans hx4)).chg hc5 (fun q hq e => by have := hd2.lt hq; omega), chgGrow (hc2.trans (Chg.of_ext (hx3.trans hx4))) hc5 fun q hq e => by omega, .inr ⟨hb, ⟨some ⟨w3.heap.size, 0, none⟩, 256, 256⟩, rfl, ?_, Nat.le_refl _, fun k hk => ?_⟩⟩
 · have := hv5.src8 (o := 0) (n := 256) (c := 256) (l := D.now i) (by rw [u8s_length, hnl]; decide) (by rw [List.drop_zero, List.take_of_length_le (by rw [u8s_length, hnl]; decide)])
   exact this
 · obtain ⟨A, hA, rfl⟩ := hk
   cases hA
   have := hv5.lt
   exact ⟨by show w.heap.size ≤ w3.heap.size; omega, this⟩
end Go.Proofs.YtplieiecebljmaaGreat
