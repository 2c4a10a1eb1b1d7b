/- Contracts of the functions that the statement reaches, and the plain laws over them; each theorem stands with its conditions. -/
import Derived.Laws.Small
import Derived.Test.YtplieiecebljmaaGreatBNone3
namespace Go.Proofs.YtplieiecebljmaaGreat
open Go Gx
theorem tx_CloneR {B : Nat → Prop} {w : World} {s : Sl} {ls : List Key} (h : TxR B w s ls) (hl : ls.length ≤ 100000) :
   Ret Tryz.prog F.slices_Clone_Sl_Sl_byte_Sl_byte #[.slice s.a s.len s.cap] w (fun v w' => ∃ s' : Sl, v = .slice s'.a s'.len s'.cap ∧ TxO (fun q => (B q ∧ q < w.heap.size) ∨ (w.heap.size ≤ q ∧ ownB s' q)) w' s' ls ∧ Ext w w' ∧ Frs w s') := by
 have hsl := TxR.len h
 obtain ⟨ts, g1, g2, g3, g4, g5⟩ := h
 refine W.slices_Clone_Sl_Sl_byte_Sl_byte_ok s w _ ?_
 delta W.slices_Clone_Sl_Sl_byte_Sl_byte Br nA
 refine ⟨fun ha => ?_, fun _ => ?_⟩
 · have ha : s.a = none := by simpa using ha
   have h0 := g2.nil ha
   have : ls = [] := List.eq_nil_of_length_eq_zero (by rw [← g1]; have := congrArg List.length h0; simpa using this)
   subst this
   exact ⟨⟨none, 0, 0⟩, rfl, TxO.none _ _, .refl _ _, fun k hk => (ownB_none k hk).elim⟩
 · obtain ⟨s', w', h1, h2, h3, h4, h5, _⟩ := appTx.clone (oT := Ty.Sl_Sl_uint8) g2 (slv_plain ts) (by omega)
   refine nx ⟨s', w', h1, s', rfl, ⟨ts, g1, h2, fun q hq => ⟨.inr ⟨h5 q hq, hq⟩, h2.lt q hq⟩, fun i i1 i2 => ?_⟩, h4, h5⟩
   have a := g5 i i1 i2
   exact ⟨Tx.weak (Tx.ext (Tx.weak (C := fun q => B q ∧ q < w.heap.size) a fun q hq hb => ⟨hb, hq⟩) h4) fun q _ hb => .inl hb, fun k hk hk2 => by have := h5 k hk2; have := (a.2.2 k hk).2; omega⟩
theorem PcAt.at {B : Nat → Prop} {w : World} {s : Sl} {ks : List Key} {kids : List Nat} (h : PcAt B w s ks kids) : s.len = kids.length ∧ kids.length = ks.length + 1 ∧ kids.length ≤ 2 ∧ ∀ (j : Nat) (hj : j < kids.length), ∃ (A : Addr) (t : Sl), s.a = some A ∧ w.cell? (A.add (j * 2)) = some (.slice t.a t.len t.cap) ∧ w.cell? ((A.add (j * 2)).add 1) = some (.int .i64 ((kids[j] : Nat) : Int)) ∧
   ((t.a = none ∧ ks.take j = ks.take (j - 1)) ∨ (t.a.isSome = true ∧ ∃ k, Tx B w t k ∧ ks.take j = ks.take (j - 1) ++ [k])) := by
 rcases h with ⟨b, x, rfl, rfl, rfl, hv, hb⟩ | ⟨b, x, y, k, t, rfl, rfl, rfl, hv, hb, ht, hk⟩
 · refine ⟨rfl, rfl, by simp, fun j hj => ?_⟩
   have : j = 0 := by simp at hj; omega
   subst this
   exact ⟨_, ⟨none, 0, 0⟩, rfl, by rw [add_mk]; exact hv.cell, by rw [add_mk, add_mk]; exact hv.cell, .inl ⟨rfl, rfl⟩⟩
 · refine ⟨rfl, rfl, by simp, fun j hj => ?_⟩
   rcases Nat.lt_or_ge j 1 with h1 | h1
   · have : j = 0 := by omega
     subst this
     exact ⟨_, ⟨none, 0, 0⟩, rfl, by rw [add_mk]; exact hv.cell, by rw [add_mk, add_mk]; exact hv.cell, .inl ⟨rfl, rfl⟩⟩
   · have : j = 1 := by simp at hj; omega
     subst this
     obtain ⟨A, hA⟩ := Tx.some ht hk
     exact ⟨_, t, rfl, by rw [add_mk]; exact hv.cell, by rw [add_mk, add_mk]; exact hv.cell, .inr ⟨by rw [hA]; rfl, k, ht, rfl⟩⟩
theorem PcAt.ext {B : Nat → Prop} {w w' : World} {s : Sl} {ks : List Key} {kids : List Nat} (h : PcAt B w s ks kids) (hx : Ext w w') : PcAt B w' s ks kids := by
 rcases h with ⟨b, x, h1, h2, h3, hv, hb⟩ | ⟨b, x, y, k, t, h1, h2, h3, hv, hb, ht, hk⟩
 · exact .inl ⟨b, x, h1, h2, h3, hv.ext hx, hb⟩
 · exact .inr ⟨b, x, y, k, t, h1, h2, h3, hv.ext hx, hb, Tx.ext ht hx, hk⟩
theorem pushK {w : World} {nb o : Nat} {vs : List Value} {S t : Sl} {ls : List Key} {l : Key} {B : Nat → Prop} {T : TypeId} (hv : Var w nb vs T) (hov : o < vs.length) (hS : TxO B w S ls) (hBn : ¬ B nb)
   (ht : Tx B w t l) (hd : ∀ k, ownB t k → ¬ ownB S k) (hn : ls.length ≤ 100000) {K : World → Prop}
   (hK : ∀ (w' : World) (S' : Sl), Var w' nb (vs.set o (.slice S'.a S'.len S'.cap)) T → TxO (Grow B w w') w' S' (ls ++ [l]) → Chg (fun q => q = nb ∨ ownB S q) w w' → (∀ k, ownB S' k → ownB S k ∨ w.heap.size ≤ k) → K w') :
   Nx (w.alloc (.cells #[.slice t.a t.len t.cap] Ty.Sl_uint8)) fun w31 => ∃ s32 : Sl, ∃ w33 : World, Sem.run Tryz.prog (Builtin.append_ #[Ty.Sl_Sl_uint8, Ty.Sl_Sl_uint8] Ty.Sl_Sl_uint8 #[.slice S.a S.len S.cap, .slice (some ⟨w.heap.size, 0, none⟩) 1 1]) w31 = .ok (.slice s32.a s32.len s32.cap) w33 ∧
     (∃ u : Value, w33.cell? (Addr.add ⟨nb, 0, none⟩ o) = some u) ∧ w33.frozen? (Addr.add ⟨nb, 0, none⟩ o) = false ∧ Nx (w33.setCell (Addr.add ⟨nb, 0, none⟩ o) (.slice s32.a s32.len s32.cap)) fun w34 => K w34 := by
 have hS2 := TxO.weak (C := fun q => B q ∨ w.heap.size ≤ q) hS fun k _ h => .inl h
 have ht2 := Tx.weak (C := fun q => B q ∨ w.heap.size ≤ q) ht fun k _ h => .inl h
 obtain ⟨s', w', g1, g2, g3, g4⟩ := pushTx hS2 ht2 hd (by omega) fun k hk => .inr hk
 have hnb := hv.lt
 have hSn : ¬ ownB S nb := fun h => by
   obtain ⟨ts, _, _, h3, _⟩ := hS
   exact hBn (h3 nb h).1
 have hv' := hv.chg g3 hSn
 obtain ⟨c1, c2⟩ := setOk hv' hov
 refine nx ⟨s', w', g1, ?_⟩
 rw [add_mk, Nat.zero_add]
 have hc := chgSet w' nb o (.slice s'.a s'.len s'.cap)
 refine ⟨c1, c2, nx (hK _ s' (varSet hv' _) ?_ ?_ g4)⟩
 · have h5 := TxO.weak (C := Grow B w (w'.setCell ⟨nb, o, none⟩ (.slice s'.a s'.len s'.cap))) g2 fun k hk h => by
     rcases h with h | h
     · exact .inl h
     · exact .inr ⟨h, Nat.lt_of_lt_of_le hk hc.size⟩
   refine TxO.chg h5 hc fun k hk e => ?_
   subst e
   rcases hk with h | h
   · exact hBn h
   · omega
 · exact (g3.mono fun k _ hk => .inr hk).trans (hc.mono fun k _ hk => .inl hk)
def ChRes (B : Nat → Prop) (n : Nd) (fr to : Nat) (ks : List Key) (kids : List Nat) (w : World) (v : Value) (w' : World) : Prop :=
 ∃ K V D : Sl, v = ndV (changedN n fr to ks kids) K V D ∧ NdAt (fun q => B q ∨ w.heap.size ≤ q) w' (changedN n fr to ks kids) K V D ∧ Ext w w'
def ChTail (nb ob rb : Nat) (l : Sl) (to : Int) (wT : World) (Q : Value → World → Prop) : Prop :=
 ∃ (I17 : Int → World → Prop) (μ18 : Int → World → Nat), I17 0 wT ∧ ∀ (n19 : Int) (w20 : World), I17 n19 w20 → ( (decide ((n19 : Int) < ((l.len : Nat) : Int))) = true → ∃ a21 : Addr, l.a = some a21 ∧ ((0 : Int) ≤ n19 ∧ n19 < ((l.len : Nat) : Int)) ∧ ∃ s22 : Sl, w20.cell? (a21.add (Int.toNat n19 * 2)) = some (.slice s22.a s22.len s22.cap) ∧ ∃ n23 : Int, w20.cell? ((a21.add (Int.toNat n19 * 2)).add 1) = some (.int .i64 n23) ∧ Nx (w20.alloc (.cells #[.slice none 0 0, .int .i64 0] Ty.tree_piece)) fun w24 => StoreOk w24 ⟨w20.heap.size, 0, none⟩ [.slice s22.a s22.len s22.cap, .int .i64 n23] ∧ (2 : Nat) = 2 ∧ Nx (setCells w24 ⟨w20.heap.size, 0, none⟩ 0 [.slice s22.a s22.len s22.cap, .int .i64 n23]) fun w25 => Jn ( fun k26 : World → Prop => ∃ s27 : Sl, w25.cell? ⟨w20.heap.size, 0, none⟩ = some (.slice s27.a s27.len s27.cap) ∧ ( (!(Option.isNone s27.a)) = true → ∃ s28 : Sl, w25.cell? (Addr.add ⟨ob, 0, none⟩ 1) = some (.slice s28.a s28.len s28.cap) ∧ ∃ s29 : Sl, w25.cell? ⟨w20.heap.size, 0, none⟩ = some (.slice s29.a s29.len s29.cap) ∧ Nx (w25.alloc (.cells #[.slice s29.a s29.len s29.cap] Ty.Sl_uint8)) fun w30 => ∃ s31 : Sl, ∃ w32 : World, Sem.run Tryz.prog ( Builtin.append_ #[Ty.Sl_Sl_uint8, Ty.Sl_Sl_uint8] Ty.Sl_Sl_uint8 #[.slice s28.a s28.len s28.cap, .slice (some ⟨w25.heap.size, 0, none⟩) 1 1]) w30 = .ok (.slice s31.a s31.len s31.cap) w32 ∧ (∃ u : Value, w32.cell? (Addr.add ⟨ob, 0, none⟩ 1) = some u) ∧ w32.frozen? (Addr.add ⟨ob, 0, none⟩ 1) = false ∧ Nx (w32.setCell (Addr.add ⟨ob, 0, none⟩ 1) (.slice s31.a s31.len s31.cap)) fun w33 => k26 w33) ∧ ((!(Option.isNone s27.a)) = false → k26 w25)) ( fun (w34 : World) => ∃ s35 : Sl, w34.cell? (Addr.add ⟨ob, 0, none⟩ 3) = some (.slice s35.a s35.len s35.cap) ∧ ∃ n36 : Int, w34.cell? (Addr.add ⟨w20.heap.size, 0, none⟩ 1) = some (.int .i64 n36) ∧ Nx (w34.alloc (.cells #[.int .i64 n36] Ty.int)) fun w37 => ∃ s38 : Sl, ∃ w39 : World, Sem.run Tryz.prog ( Builtin.append_ #[Ty.Sl_int, Ty.Sl_int] Ty.Sl_int #[.slice s35.a s35.len s35.cap, .slice (some ⟨w34.heap.size, 0, none⟩) 1 1]) w37 = .ok (.slice s38.a s38.len s38.cap) w39 ∧ (∃ u : Value, w39.cell? (Addr.add ⟨ob, 0, none⟩ 3) = some u) ∧ w39.frozen? (Addr.add ⟨ob, 0, none⟩ 3) = false ∧ Nx (w39.setCell (Addr.add ⟨ob, 0, none⟩ 3) (.slice s38.a s38.len s38.cap)) fun w40 => I17 (IntKind.wrap .i64 (n19 + 1)) w40 ∧ μ18 (IntKind.wrap .i64 (n19 + 1)) w40 < μ18 n19 w20) ) ∧ ( (decide ((n19 : Int) < ((l.len : Nat) : Int))) = false → Nx (w20.drew) fun w41 => ¬ False ∧ ∃ s42 : Sl, w41.cell? (Addr.add ⟨ob, 0, none⟩ 1) = some (.slice s42.a s42.len s42.cap) ∧ ¬ False ∧ ∃ s43 : Sl, w41.cell? (Addr.add ⟨nb, 0, none⟩ 1) = some (.slice s43.a s43.len s43.cap) ∧ ((0 : Int) ≤ (IntKind.wrap .i64 (to - 1)) ∧ (IntKind.wrap .i64 (to - 1)) ≤ ((s43.len : Nat) : Int)) ∧ ∃ s44 : Sl, ∃ w45 : World, Sem.run Tryz.prog ( Builtin.append_ #[Ty.Sl_Sl_uint8, Ty.Sl_Sl_uint8] Ty.Sl_Sl_uint8 #[.slice s42.a s42.len s42.cap, .slice (cutA s43.a 1 (Int.toNat (IntKind.wrap .i64 (to - 1))) s43.cap) (s43.len - (Int.toNat (IntKind.wrap .i64 (to - 1)))) (s43.cap - (Int.toNat (IntKind.wrap .i64 (to - 1))))]) w41 = .ok (.slice s44.a s44.len s44.cap) w45 ∧ (∃ u : Value, w45.cell? (Addr.add ⟨ob, 0, none⟩ 1) = some u) ∧ w45.frozen? (Addr.add ⟨ob, 0, none⟩ 1) = false ∧ Nx (w45.setCell (Addr.add ⟨ob, 0, none⟩ 1) (.slice s44.a s44.len s44.cap)) fun w46 => Nx (w46.drew) fun w47 => ¬ False ∧ ∃ s48 : Sl, w47.cell? (Addr.add ⟨ob, 0, none⟩ 3) = some (.slice s48.a s48.len s48.cap) ∧ ¬ False ∧ ∃ s49 : Sl, w47.cell? (Addr.add ⟨nb, 0, none⟩ 3) = some (.slice s49.a s49.len s49.cap) ∧ ((0 : Int) ≤ to ∧ to ≤ ((s49.len : Nat) : Int)) ∧ ∃ s50 : Sl, ∃ w51 : World, Sem.run Tryz.prog ( Builtin.append_ #[Ty.Sl_int, Ty.Sl_int] Ty.Sl_int #[.slice s48.a s48.len s48.cap, .slice (cutA s49.a 1 (Int.toNat to) s49.cap) (s49.len - (Int.toNat to)) (s49.cap - (Int.toNat to))]) w47 = .ok (.slice s50.a s50.len s50.cap) w51 ∧ (∃ u : Value, w51.cell? (Addr.add ⟨ob, 0, none⟩ 3) = some u) ∧ w51.frozen? (Addr.add ⟨ob, 0, none⟩ 3) = false ∧ Nx (w51.setCell (Addr.add ⟨ob, 0, none⟩ 3) (.slice s50.a s50.len s50.cap)) fun w52 => ∃ b53 : Bool, w52.cell? ⟨ob, 0, none⟩ = some (.bool b53) ∧ ∃ s54 : Sl, w52.cell? (Addr.add ⟨ob, 0, none⟩ 1) = some (.slice s54.a s54.len s54.cap) ∧ ∃ s55 : Sl, w52.cell? (Addr.add ⟨ob, 0, none⟩ 2) = some (.slice s55.a s55.len s55.cap) ∧ ∃ s56 : Sl, w52.cell? (Addr.add ⟨ob, 0, none⟩ 3) = some (.slice s56.a s56.len s56.cap) ∧ StoreOk w52 ⟨rb, 0, none⟩ [.bool b53, .slice s54.a s54.len s54.cap, .slice s55.a s55.len s55.cap, .slice s56.a s56.len s56.cap] ∧ (4 : Nat) = 4 ∧ Nx ( setCells w52 ⟨rb, 0, none⟩ 0 [.bool b53, .slice s54.a s54.len s54.cap, .slice s55.a s55.len s55.cap, .slice s56.a s56.len s56.cap]) fun w57 => ∃ b58 : Bool, w57.cell? ⟨rb, 0, none⟩ = some (.bool b58) ∧ ∃ s59 : Sl, w57.cell? (Addr.add ⟨rb, 0, none⟩ 1) = some (.slice s59.a s59.len s59.cap) ∧ ∃ s60 : Sl, w57.cell? (Addr.add ⟨rb, 0, none⟩ 2) = some (.slice s60.a s60.len s60.cap) ∧ ∃ s61 : Sl, w57.cell? (Addr.add ⟨rb, 0, none⟩ 3) = some (.slice s61.a s61.len s61.cap) ∧ Q ( .agg #[.bool b58, .slice s59.a s59.len s59.cap, .slice s60.a s60.len s60.cap, .slice s61.a s61.len s61.cap]) w57)
structure ChSt (B : Nat → Prop) (lo : Nat) (nb ob rb : Nat) (n : Nd) (K V D : Sl) (vsr : List Value) (w : World) (K' D' : Sl) (BK BD : Nat → Prop) (ks : List Key) (ds : List Nat) : Prop where
 pn : Var w nb [.bool n.leaf, .slice K.a K.len K.cap, .slice V.a V.len V.cap, .slice D.a D.len D.cap] Ty.api_Node
 r : Var w rb vsr Ty.api_Node
 o : Var w ob [.bool false, .slice K'.a K'.len K'.cap, .slice none 0 0, .slice D'.a D'.len D'.cap] Ty.api_Node
 k : TxO BK w K' ks
 d : InO BD w D' ds
 bk : ∀ q, BK q → (B q ∧ q < lo) ∨ (lo ≤ q ∧ q < w.heap.size ∧ q ≠ nb ∧ q ≠ ob ∧ q ≠ rb ∧ ¬ BD q)
 bd : ∀ q, BD q → lo ≤ q ∧ q < w.heap.size ∧ q ≠ nb ∧ q ≠ ob ∧ q ≠ rb
 ko : ∀ q, ownB K' q → lo ≤ q
theorem ChSt.ext {B : Nat → Prop} {lo nb ob rb : Nat} {n : Nd} {K V D : Sl} {vsr : List Value} {w w' : World} {K' D' : Sl} {BK BD : Nat → Prop} {ks : List Key} {ds : List Nat} (h : ChSt B lo nb ob rb n K V D vsr w K' D' BK BD ks ds) (hx : Ext w w') : ChSt B lo nb ob rb n K V D vsr w' K' D' BK BD ks ds := by
 have hz := hx.size
 exact ⟨h.pn.ext hx, h.r.ext hx, h.o.ext hx, TxO.ext h.k hx, InO.ext h.d hx, fun q hq => (h.bk q hq).imp id fun h => ⟨h.1, by omega, h.2.2⟩, fun q hq => ⟨(h.bd q hq).1, by have := (h.bd q hq).2.1; omega, (h.bd q hq).2.2⟩, h.ko⟩
theorem chTail {B : Nat → Prop} {w wT : World} {nb ob rb : Nat} {n : Nd} {K V D s K0 D0 : Sl} {vsr : List Value} {BK BD : Nat → Prop} {ks : List Key} {kids : List Nat} {fr to : Nat} (hst : ChSt B w.heap.size nb ob rb n K V D vsr wT K0 D0 BK BD (n.keys.take fr) (n.kids.take fr)) (hX : Ext w wT)
   (hn : NdAt B w n K V D) (hl : PcAt B w s ks kids) (hrl : vsr.length = 4) (h1 : w.heap.size ≤ nb) (h2 : w.heap.size ≤ ob) (h3 : w.heap.size ≤ rb) (h4 : nb ≠ ob ∧ nb ≠ rb ∧ ob ≠ rb) (t1 : 1 ≤ to) (t2 : to ≤ n.kids.length) (t3 : to - 1 ≤ n.keys.length) (n1 : n.keys.length ≤ 1000) (n2 : n.kids.length ≤ 1000) :
   ChTail nb ob rb s (to : Nat) wT (ChRes B n fr to ks kids w) := by
 obtain ⟨p1, p2, p3, p4⟩ := hl.at
 unfold ChTail
 refine ⟨fun i w' => ∃ (j : Nat) (K' D' : Sl) (BK BD : Nat → Prop), i = j ∧ j ≤ kids.length ∧ Ext w w' ∧ ChSt B w.heap.size nb ob rb n K V D vsr w' K' D' BK BD (n.keys.take fr ++ ks.take (j - 1)) (n.kids.take fr ++ kids.take j), fun i _ => ((kids.length : Int) - i).toNat, ⟨0, K0, D0, BK, BD, rfl, Nat.zero_le _, hX, by simpa using hst⟩, ?_⟩
 rintro _ w20 ⟨j, K', D', BK, BD, rfl, hj, hx20, h⟩
 have hz20 := hx20.size
 refine ⟨fun hlt => ?_, fun hge => ?_⟩
 · have hlt : j < kids.length := by
     have : ((j : Nat) : Int) < ((s.len : Nat) : Int) := of_decide_eq_true hlt
     omega
   obtain ⟨A, t, hA, c1, c2, hkey⟩ := (hl.ext hx20).at.2.2.2 j hlt
   refine ⟨A, hA, ⟨by omega, by omega⟩, t, by rw [Int.toNat_natCast]; exact c1, _, by rw [Int.toNat_natCast]; exact c2, ?_⟩
   have hkey : (t.a = none ∧ ks.take j = ks.take (j - 1)) ∨ (t.a.isSome = true ∧ ∃ k, Tx (fun q => B q ∧ q < w.heap.size) w20 t k ∧ ks.take j = ks.take (j - 1) ++ [k]) := by
     obtain ⟨A', t', hA', c1', _, hk'⟩ := p4 j hlt
     rw [hA] at hA'; cases hA'
     have e := Chg.cell hx20 (fun h => h) c1'
     rw [c1] at e
     injection e with e
     obtain rfl : t = t' := by
       cases t; cases t'; simp at e; simp [e]
     rcases hk' with h | ⟨h1, k, h2, h3⟩
     · exact .inl h
     · exact .inr ⟨h1, k, Tx.ext (Tx.weak h2 fun q hq hb => ⟨hb, hq⟩) hx20, h3⟩
   refine nxVar (vs := [.slice none 0 0, .int .i64 0]) rfl fun w24 hp24 hx24 hs24 => ?_
   refine ⟨hp24.storeOk rfl ?_, rfl, nxPut hp24 (us := [.slice t.a t.len t.cap, .int .i64 ((kids[j] : Nat) : Int)]) rfl rfl fun w25 hp25 hc25 hs25 => ?_⟩
   · intro v hv
     simp only [List.mem_cons, List.not_mem_nil, or_false] at hv
     rcases hv with rfl | rfl <;> trivial
   have hx25 : Ext w20 w25 := Ext.of_chg hx24 hc25 (Nat.le_refl _)
   have h25 := h.ext hx25
   have hz25 := hx25.size
   have hX25 := hx20.trans hx25
   obtain ⟨pv, hpv⟩ : ∃ pv, pv = w20.heap.size := ⟨_, rfl⟩
   rw [← hpv] at hp25 ⊢
   have hplt := hp25.lt
   refine Jn0 (fun w34 => ∃ (K2 : Sl) (BK2 : Nat → Prop), ChSt B w.heap.size nb ob rb n K V D vsr w34 K2 D' BK2 BD (n.keys.take fr ++ ks.take j) (n.kids.take fr ++ kids.take j) ∧ Ext w w34 ∧ Var w34 pv [.slice t.a t.len t.cap, .int .i64 ((kids[j] : Nat) : Int)] Ty.tree_piece ∧ w25.heap.size ≤ w34.heap.size) (fun q hq => ⟨t, hp25.cell, fun hb => ?_, fun hb => ?_⟩) ?_
   · rcases hkey with ⟨ha, _⟩ | ⟨_, k, ht, hks⟩
     · rw [ha] at hb; cases hb
     obtain ⟨o0, o1, o2, o3⟩ := ndCells (V := ⟨none, 0, 0⟩) h25.o
     have hKB : ∀ q, ownB K' q → BK q := fun q hq => by
       obtain ⟨ts, _, _, h3, _⟩ := h25.k
       exact (h3 q hq).1
     refine ⟨K', o1, t, hp25.cell, pushK (B := fun q => BK q ∨ (B q ∧ q < w.heap.size)) h25.o (o := 1) (by simp) (TxO.weak h25.k fun q _ hb => .inl hb) (fun hb => ?_) (Tx.weak (Tx.ext ht hx25) fun q _ hb => .inr hb) (fun q hq hk => ?_) ?_ fun w' S' g1 g2 g3 g4 => hq _ ⟨S', Grow (fun q => BK q ∨ (B q ∧ q < w.heap.size)) w25 w', ?_, ?_, ?_, g3.size⟩⟩
     · rcases hb with hb | hb
       · rcases h25.bk _ hb with h5 | h5
         · omega
         · exact h5.2.2.2.1 rfl
       · omega
     · have := (ht.2.2 q hq).1.2
       have := h25.ko q hk
       omega
     · rw [List.length_append, List.length_take, List.length_take]; omega
     · have hz' := g3.size
       have hq1 : ∀ q, ownB K' q → q < w20.heap.size ∧ q ≠ nb ∧ q ≠ ob ∧ q ≠ rb ∧ ¬ BD q := fun q hq => by
         have h6 := h.ko q hq
         rcases h.bk q (hKB q hq) with h5 | h5
         · omega
         · exact h5.2
       refine ⟨h25.pn.chg g3 fun hq => ?_, h25.r.chg g3 fun hq => ?_, g1, ?_, InO.chg h25.d g3 fun q hb hq => ?_, fun q hb => ?_, fun q hb => ⟨(h25.bd q hb).1, by have := (h25.bd q hb).2.1; omega, (h25.bd q hb).2.2⟩, fun q hq => ?_⟩
       · rcases hq with e | hq
         · exact h4.1 e
         · exact (hq1 _ hq).2.1 rfl
       · rcases hq with e | hq
         · exact h4.2.2 e.symm
         · exact (hq1 _ hq).2.2.2.1 rfl
       · rw [hks, ← List.append_assoc]; exact g2
       · rcases hq with e | hq
         · exact (h25.bd q hb).2.2.2.1 e
         · exact (hq1 q hq).2.2.2.2 hb
       · rcases hb with (hb | hb) | hb
         · exact (h25.bk q hb).imp id fun h5 => ⟨h5.1, by omega, h5.2.2⟩
         · exact .inl hb
         · refine .inr ⟨by omega, hb.2, fun e => ?_, fun e => ?_, fun e => ?_, fun hd => ?_⟩
           · have := h25.pn.lt; omega
           · have := h25.o.lt; omega
           · have := h25.r.lt; omega
           · have := (h25.bd q hd).2.1; omega
       · rcases g4 q hq with h5 | h5
         · exact h.ko q h5
         · omega
     · exact Ext.of_new hX25 g3 fun q hq => by
         rcases hq with rfl | hq
         · exact h2
         · exact h25.ko q hq
     · refine hp25.chg g3 fun hq => ?_
       rcases hq with e | hq
       · have := h.o.lt; omega
       · rcases h.bk _ (hKB _ hq) with h5 | h5 <;> omega
   · rcases hkey with ⟨_, hks⟩ | ⟨ha, _⟩
     · refine hq _ ⟨K', BK, ?_, hX25, hp25, Nat.le_refl _⟩
       rw [hks]; exact h25
     · cases hta : t.a with
       | none => rw [hta] at ha; cases ha
       | some A => rw [hta] at hb; cases hb
   rintro w34 ⟨K2, BK2, hs34, hx34, hp34, hz34⟩
   have hlt34 := hp34.lt
   obtain ⟨o0, o1, o2, o3⟩ := ndCells (V := ⟨none, 0, 0⟩) hs34.o
   have hDB : ∀ q, ownB D' q → BD q := fun q hq => (hs34.d.2 q hq).1
   have hkb : ∀ q, BK2 q → ¬ (q = ob ∨ ownB D' q) := fun q hb hq => by
     rcases hs34.bk q hb with h5 | h5
     · rcases hq with e | hq
       · omega
       · have := (hs34.bd q (hDB q hq)).1; omega
     · rcases hq with e | hq
       · exact h5.2.2.2.1 e
       · exact h5.2.2.2.2.2 (hDB q hq)
   have hw : IntKind.wrap .i64 ((j : Int) + 1) = ((j + 1 : Nat) : Int) := by rw [wrapi (by omega) (by omega)]; rfl
   refine ⟨D', o3, _, by rw [add_mk]; exact hp34.cell, (pushSegI (W := fun _ => True) kids[j] hs34.o (o := 3) (by simp) hs34.d (fun hb => (hs34.bd _ hb).2.2.2.1 rfl) (by rw [List.length_append, List.length_take, List.length_take]; omega) fun w' S' g1 g2 g3 => ⟨⟨j + 1, K2, S', BK2, Grow BD w34 w', hw, by omega, ?_, ?_⟩, ?_⟩).2⟩
   · exact Ext.of_new hx34 g3 fun q hq => by
       rcases hq with rfl | hq
       · exact h2
       · exact (hs34.bd q (hDB q hq)).1
   · have hz' := g3.size
     refine ⟨hs34.pn.chg g3 fun hq => ?_, hs34.r.chg g3 fun hq => ?_, g1, ?_, ?_, fun q hb => ?_, fun q hb => ?_, hs34.ko⟩
     · rcases hq with e | hq
       · exact h4.1 e
       · exact (hs34.bd _ (hDB _ hq)).2.2.1 rfl
     · rcases hq with e | hq
       · exact h4.2.2 e.symm
       · exact (hs34.bd _ (hDB _ hq)).2.2.2.2 rfl
     · exact TxO.chg hs34.k g3 hkb
     · rw [List.take_succ_eq_append_getElem hlt, ← List.append_assoc]; exact g2
     · refine (hs34.bk q hb).imp id fun h5 => ⟨h5.1, by omega, h5.2.2.1, h5.2.2.2.1, h5.2.2.2.2.1, fun hd => ?_⟩
       rcases hd with hd | hd
       · exact h5.2.2.2.2.2 hd
       · omega
     · rcases hb with hb | hb
       · exact ⟨(hs34.bd q hb).1, by have := (hs34.bd q hb).2.1; omega, (hs34.bd q hb).2.2⟩
       · refine ⟨by have := hx34.size; omega, hb.2, fun e => ?_, fun e => ?_, fun e => ?_⟩
         · have := hs34.pn.lt; omega
         · have := hs34.o.lt; omega
         · have := hs34.r.lt; omega
   · rw [hw]
     show ((kids.length : Int) - ((j + 1 : Nat) : Int)).toNat < ((kids.length : Int) - (j : Int)).toNat
     omega
 · have hge : j = kids.length := by
     have : ¬ ((j : Nat) : Int) < ((s.len : Nat) : Int) := of_decide_eq_false hge
     omega
   subst hge
   have hxd : Ext w20 w20.drew := ext_drew _
   have h := h.ext hxd
   have hx20 := hx20.trans hxd
   have hks : ks.take (kids.length - 1) = ks := List.take_of_length_le (by omega)
   rw [hks, List.take_length] at h
   obtain ⟨o0, o1, o2, o3⟩ := ndCells (V := ⟨none, 0, 0⟩) h.o
   obtain ⟨q0, q1, q2, q3⟩ := ndCells h.pn
   have hnB : NdAt (fun q => B q ∧ q < w.heap.size) w n K V D := hn.weak fun q hq hb => ⟨hb, hq⟩
   have hn20 := hnB.ext hx20
   have hKl := TxR.len hn20.keys
   have hDl := InR.len hn20.kids
   have hwt : IntKind.wrap .i64 ((to : Int) - 1) = ((to - 1 : Nat) : Int) := by rw [wrapi (by omega) (by omega)]; omega
   have hKB : ∀ q, ownB K' q → BK q := fun q hq => by
     obtain ⟨ts, _, _, h3, _⟩ := h.k
     exact (h3 q hq).1
   have hDB : ∀ q, ownB D' q → BD q := fun q hq => (h.d.2 q hq).1
   have hsubK := TxR.sub hn20.keys (lo := to - 1) (hi := n.keys.length) t3 (Nat.le_refl _)
   have eK : (n.keys.drop (to - 1)).take (n.keys.length - (to - 1)) = n.keys.drop (to - 1) := List.take_of_length_le (by rw [List.length_drop]; exact Nat.le_refl _)
   rw [eK] at hsubK
   obtain ⟨K3, w45, e1, e2, e3⟩ := catTx h.k hsubK (fun q hq hk => by have := h.ko q hk; omega) (by rw [List.length_append, List.length_take]; omega) (by rw [List.length_drop]; omega)
   have hzd : w20.drew.heap.size = w20.heap.size := rfl
   have hq1 : ∀ q, ownB K' q → q < w20.drew.heap.size ∧ q ≠ nb ∧ q ≠ ob ∧ q ≠ rb ∧ ¬ BD q := fun q hq => by
     have h6 := h.ko q hq
     rcases h.bk q (hKB q hq) with h5 | h5
     · omega
     · exact h5.2
   have hz45 := e3.size
   have hx45 : Ext w w45 := Ext.of_new hx20 e3 fun q hq => h.ko q hq
   have ho45 := h.o.chg e3 fun hq => (hq1 _ hq).2.2.1 rfl
   have hn45 := h.pn.chg e3 fun hq => (hq1 _ hq).2.1 rfl
   have hr45 := h.r.chg e3 fun hq => (hq1 _ hq).2.2.2.1 rfl
   have hd45 : InO BD w45 D' _ := InO.chg h.d e3 fun q hb hq => (hq1 q hq).2.2.2.2 hb
   obtain ⟨k1, k2⟩ := setOk ho45 (i := 1) (by simp)
   refine nx ⟨id, K', o1, id, K, q1, ?_, K3, w45, ?_, by rw [add_mk]; exact k1, by rw [add_mk]; exact k2, ?_⟩
   · rw [hwt, hKl]; omega
   · rw [hwt, Int.toNat_natCast, hKl]; exact e1
   rw [add_mk, Nat.zero_add]
   have hc46 := chgSet w45 ob 1 (.slice K3.a K3.len K3.cap)
   have ho46 := varSet ho45 (i := 1) (.slice K3.a K3.len K3.cap)
   obtain ⟨w46, hw46⟩ : ∃ w46, w46 = w45.setCell ⟨ob, 1, none⟩ (.slice K3.a K3.len K3.cap) := ⟨_, rfl⟩
   rw [← hw46] at hc46 ho46 ⊢
   have hz46 := hc46.size
   have hn46 := hn45.chg hc46 (fun e => h4.1 e)
   have hr46 := hr45.chg hc46 (fun e => h4.2.2 e.symm)
   have hd46 : InO BD w46 D' _ := InO.chg hd45 hc46 fun q hb e => (h.bd q hb).2.2.2.1 e
   have hx46 : Ext w w46 := Ext.of_chg hx45 hc46 h2
   have hxd2 : Ext w46 w46.drew := ext_drew _
   have hC : ∀ q, (BK q ∨ (B q ∧ q < w.heap.size) ∨ w20.drew.heap.size ≤ q) → q ≠ ob := fun q hq e => by
     subst e
     rcases hq with hq | hq | hq
     · rcases h.bk _ hq with h5 | h5
       · omega
       · exact h5.2.2.2.1 rfl
     · omega
     · have := h.o.lt; omega
   have hk46 := TxR.ext (TxR.chg e2 hc46 hC) hxd2
   have ho46 := ho46.ext hxd2
   have hn46 := hn46.ext hxd2
   have hr46 := hr46.ext hxd2
   have hd46 := InO.ext hd46 hxd2
   have hx46 := hx46.trans hxd2
   obtain ⟨o0, o1, o2, o3⟩ := ndCells (V := ⟨none, 0, 0⟩) ho46
   obtain ⟨q0, q1, q2, q3⟩ := ndCells hn46
   have hsubD := InR.sub (hnB.ext hx46).kids (lo := to) (hi := n.kids.length) t2 (Nat.le_refl _)
   have eD : (n.kids.drop to).take (n.kids.length - to) = n.kids.drop to := List.take_of_length_le (by rw [List.length_drop]; exact Nat.le_refl _)
   rw [eD] at hsubD
   obtain ⟨D3, w51, f1, f2, f3⟩ := catInt hd46 hsubD (by rw [List.length_append, List.length_take]; omega) (by rw [List.length_drop]; omega)
   have hzd2 : w46.drew.heap.size = w46.heap.size := rfl
   have hz51 := f3.size
   have hq2 : ∀ q, ownB D' q → w.heap.size ≤ q ∧ q < w20.drew.heap.size ∧ q ≠ nb ∧ q ≠ ob ∧ q ≠ rb := fun q hq => h.bd q (hDB q hq)
   have hx51 : Ext w w51 := Ext.of_new hx46 f3 fun q hq => (hq2 q hq).1
   have ho51 := ho46.chg f3 fun hq => (hq2 _ hq).2.2.2.1 rfl
   have hr51 := hr46.chg f3 fun hq => (hq2 _ hq).2.2.2.2 rfl
   have hk51 := TxR.chg hk46 f3 fun q hb hq => by
     have hq3 := hq2 q hq
     rcases hb with hb | hb | hb
     · rcases h.bk q hb with h5 | h5
       · omega
       · exact h5.2.2.2.2.2 (hDB q hq)
     · omega
     · omega
   obtain ⟨k1, k2⟩ := setOk ho51 (i := 3) (by simp)
   refine nx (nx ⟨id, D', o3, id, D, q3, ?_, D3, w51, ?_, by rw [add_mk]; exact k1, by rw [add_mk]; exact k2, ?_⟩)
   · rw [hDl]; omega
   · rw [Int.toNat_natCast, hDl]; exact f1
   rw [add_mk, Nat.zero_add]
   have hc52 := chgSet w51 ob 3 (.slice D3.a D3.len D3.cap)
   have ho52 := varSet ho51 (i := 3) (.slice D3.a D3.len D3.cap)
   obtain ⟨w52, hw52⟩ : ∃ w52, w52 = w51.setCell ⟨ob, 3, none⟩ (.slice D3.a D3.len D3.cap) := ⟨_, rfl⟩
   rw [← hw52] at hc52 ho52 ⊢
   have hz52 := hc52.size
   have hr52 := hr51.chg hc52 (fun e => h4.2.2 e.symm)
   have hx52 : Ext w w52 := Ext.of_chg hx51 hc52 h2
   have hk52 := TxR.chg hk51 hc52 hC
   have hd52 := InR.chg f2 hc52 fun q hb e => by
     subst e
     rcases hb with hb | hb | hb
     · exact (h.bd _ hb).2.2.2.1 rfl
     · omega
     · have := h.o.lt; omega
   obtain ⟨o0, o1, o2, o3⟩ := ndCells (V := ⟨none, 0, 0⟩) ho52
   refine nx ⟨_, o0, K3, o1, ⟨none, 0, 0⟩, o2, D3, o3, ?_⟩
   refine retN false K3 ⟨none, 0, 0⟩ D3 hr52 hrl (Q := fun b K V D w2 => ChRes B n fr to ks kids w (.agg #[.bool b, .slice K.a K.len K.cap, .slice V.a V.len V.cap, .slice D.a D.len D.cap]) w2) fun w57 hc57 => ?_
   refine ⟨K3, ⟨none, 0, 0⟩, D3, rfl, ⟨?_, ?_, ?_⟩, Ext.of_chg hx52 hc57 h3⟩
   · refine TxR.weak (TxR.chg hk52 hc57 fun q hb e => ?_) fun q _ hb => ?_
     · subst e
       rcases hb with hb | hb | hb
       · rcases h.bk _ hb with h5 | h5
         · omega
         · exact h5.2.2.2.2.1 rfl
       · omega
       · have := h.r.lt; omega
     · rcases hb with hb | hb | hb
       · rcases h.bk _ hb with h5 | h5
         · exact .inl h5.1
         · exact .inr h5.1
       · exact .inl hb.1
       · have := hx20.size; exact .inr (by omega)
   · exact TxR.none _ _
   · refine InR.weak (InR.chg hd52 hc57 fun q hb e => ?_) fun q _ hb => ?_
     · subst e
       rcases hb with hb | hb | hb
       · exact (h.bd _ hb).2.2.2.2 rfl
       · omega
       · have := h.r.lt; omega
     · rcases hb with hb | hb | hb
       · exact .inr (h.bd _ hb).1
       · exact .inl hb.1
       · have := hx46.size; exact .inr (by omega)
end Go.Proofs.YtplieiecebljmaaGreat
namespace Go.Proofs.YtplieiecebljmaaGreat
open Go Gx
theorem buildNd (K D : Sl) (w : World) : Sem.run Tryz.prog (Instr.build Ty.api_Node #[(1, .slice K.a K.len K.cap), (3, .slice D.a D.len D.cap)]) w = .ok (.agg #[.bool false, .slice K.a K.len K.cap, .slice none 0 0, .slice D.a D.len D.cap]) w := by kernel_rfl
theorem tree_changed {B : Nat → Prop} {w : World} {n : Nd} {K V D s : Sl} {ks : List Key} {kids : List Nat} {fr to : Nat} (hn : NdAt B w n K V D) (hl : PcAt B w s ks kids) (f1 : fr ≤ n.keys.length) (f2 : fr ≤ n.kids.length) (t1 : 1 ≤ to) (t2 : to ≤ n.kids.length) (t3 : to - 1 ≤ n.keys.length) (n1 : n.keys.length ≤ 1000) (n2 : n.kids.length ≤ 1000) :
   Ret Tryz.prog F.tree_changed #[ndV n K V D, .int .i64 (fr : Nat), .int .i64 (to : Nat), .slice s.a s.len s.cap] w (ChRes B n fr to ks kids w) := by
 refine W.tree_changed_ok n.leaf K V D (fr : Nat) (to : Nat) s w _ ?_
 (delta W.tree_changed z1 nA r1 c12 c13 T4 Br bd r2 z4 T25 st wI r3 T23; dsimp only)
 refine nxVar (vs := [.bool n.leaf, .slice K.a K.len K.cap, .slice V.a V.len V.cap, .slice D.a D.len D.cap]) rfl fun w1 hp1 hx1 hs1 => ?_
 refine nxVar (vs := [.bool false, .slice none 0 0, .slice none 0 0, .slice none 0 0]) rfl fun w2 hr2 hx2 hs2 => nx ?_
 have hxd : Ext w2 w2.drew := ext_drew _
 have hX3 := (hx1.trans hx2).trans hxd
 obtain ⟨w3, hw3⟩ : ∃ w3, w3 = w2.drew := ⟨_, rfl⟩
 have hs3 : w3.heap.size = w2.heap.size := by rw [hw3]; rfl
 rw [← hw3] at hX3 hxd ⊢
 have hp3 := (hp1.ext hx2).ext hxd
 have hr3 := hr2.ext hxd
 obtain ⟨c0, c1, c2, c3⟩ := ndCells hp3
 have hn3 : NdAt (fun q => B q ∧ q < w.heap.size) w3 n K V D := (hn.weak fun q hq hb => ⟨hb, hq⟩).ext hX3
 have hKl := TxR.len hn3.keys
 have hDl := InR.len hn3.kids
 have hKc := TxR.le hn3.keys
 have hDc := hn3.kids.2.1
 have hsK := TxR.sub hn3.keys (lo := 0) (hi := fr) (Nat.zero_le _) f1
 have hsD := InR.sub hn3.kids (lo := 0) (hi := fr) (Nat.zero_le _) f2
 rw [List.drop_zero, Nat.sub_zero] at hsK hsD
 have e0 : Int.toNat ((fr : Nat) : Int) - 0 = fr := by rw [Int.toNat_natCast]; rfl
 -- the node is laid
 have fin : ∀ (wT : World) (ob : Nat) (K0 D0 : Sl), Ext w3 wT → Var wT ob [.bool false, .slice K0.a K0.len K0.cap, .slice none 0 0, .slice D0.a D0.len D0.cap] Ty.api_Node → w3.heap.size ≤ ob → TxO (fun q => (B q ∧ q < w.heap.size) ∨ (w3.heap.size ≤ q ∧ ownB K0 q)) wT K0 (n.keys.take fr) → OwnS 1 Ty.int wT D0 (intsV (n.kids.take fr)) →
     (∀ q, ownB K0 q → w3.heap.size ≤ q ∧ q ≠ ob) → (∀ q, ownB D0 q → w3.heap.size ≤ q ∧ q ≠ ob ∧ ¬ ownB K0 q) → ChTail w.heap.size ob w1.heap.size s (to : Nat) wT (ChRes B n fr to ks kids w) := by
   intro wT ob K0 D0 hx ho hob hK hD hK2 hD2
   have hz := hx.size
   have hlt : ∀ q, ownB K0 q → q < wT.heap.size := fun q hq => by
     obtain ⟨ts, _, h4, _, _⟩ := hK
     exact h4.lt q hq
   refine chTail (BK := fun q => (B q ∧ q < w.heap.size) ∨ ownB K0 q) (BD := fun q => ownB D0 q) ⟨hp3.ext hx, hr3.ext hx, ho, TxO.weak hK fun q _ hb => hb.imp id fun h => h.2, ⟨hD, fun q hq => ⟨hq, OwnS.lt hD q hq⟩⟩, fun q hb => ?_, fun q hb => ?_, fun q hq => by have := (hK2 q hq).1; omega⟩ (hX3.trans hx) hn hl rfl (Nat.le_refl _) (by omega) (by omega) ⟨by omega, by omega, by omega⟩ t1 t2 t3 n1 n2
   · rcases hb with hb | hb
     · exact .inl hb
     · have h5 := hK2 q hb
       exact .inr ⟨by omega, hlt q hb, by omega, h5.2, by omega, fun h6 => (hD2 q h6).2.2 hb⟩
   · have h5 := hD2 q hb
     exact ⟨by omega, OwnS.lt hD q hb, by omega, h5.2.1, by omega⟩
 refine ⟨fun _ => False, id, K, c1, ⟨by omega, by omega⟩, id, D, c3, ⟨by omega, by omega⟩, ?_, ?_⟩
 · rw [e0]
   refine (tx_CloneR hsK (by rw [List.length_take]; omega)).use ?_
   rintro _ w7 ⟨K0, rfl, hK0, hx7, hf7⟩
   have hz7 := hx7.size
   refine ⟨K0, rfl, hx7, ?_, ?_⟩
   · refine (int_Clone (hsD.1.ext hx7) (by rw [List.length_take]; omega)).use ?_
     rintro _ w10 ⟨D0, rfl, hD0, hx10, hf10⟩
     have hz10 := hx10.size
     refine ⟨D0, rfl, hx10, _, buildNd K0 D0, nxVar (vs := [.bool false, .slice none 0 0, .slice none 0 0, .slice none 0 0]) rfl fun w15 ho15 hx15 hs15 => ⟨hx15, ho15.storeOk rfl (plain4 (b := false) (K := K0) (V := ⟨none, 0, 0⟩) (D := D0)), rfl, nxPut ho15 (us := [.bool false, .slice K0.a K0.len K0.cap, .slice none 0 0, .slice D0.a D0.len D0.cap]) rfl rfl fun w16 ho16 hc16 hs16 => ?_⟩⟩
     have hx16 : Ext w10 w16 := Ext.of_chg hx15 hc16 (Nat.le_refl _)
     have hkl : ∀ q, ownB K0 q → q < w7.heap.size := fun q hq => by
       obtain ⟨ts, _, h4, _, _⟩ := hK0
       exact h4.lt q hq
     exact fin w16 w10.heap.size K0 D0 (hx7.trans (hx10.trans hx16)) ho16 (by omega) (TxO.weak (TxO.ext hK0 (hx10.trans hx16)) fun q _ hb => hb.imp (fun h => h.1) id) (hD0.ext hx16) (fun q hq => ⟨hf7 q hq, by have := hkl q hq; omega⟩) fun q hq => ⟨by have := hf10 q hq; omega, by have := OwnS.lt hD0 q hq; omega, fun h => by have := hkl q h; have := hf10 q hq; omega⟩
   · refine nxVar (vs := [.bool false, .slice none 0 0, .slice none 0 0, .slice none 0 0]) rfl fun w62 ho62 hx62 hs62 => ⟨hx62, (int_Clone ((hsD.1.ext hx7).ext hx62) (by rw [List.length_take]; omega)).use ?_⟩
     rintro _ w63 ⟨D0, rfl, hD0, hx63, hf63⟩
     have ho63 := ho62.ext hx63
     refine ⟨D0, rfl, hx63, _, buildNd K0 D0, ho63.storeOk rfl (plain4 (b := false) (K := K0) (V := ⟨none, 0, 0⟩) (D := D0)), rfl, nxPut ho63 (us := [.bool false, .slice K0.a K0.len K0.cap, .slice none 0 0, .slice D0.a D0.len D0.cap]) rfl rfl fun w16 ho16 hc16 hs16 => ?_⟩
     have hx16 : Ext w7 w16 := Ext.of_chg (hx62.trans hx63) hc16 (Nat.le_refl _)
     have hkl : ∀ q, ownB K0 q → q < w7.heap.size := fun q hq => by
       obtain ⟨ts, _, h4, _, _⟩ := hK0
       exact h4.lt q hq
     exact fin w16 w7.heap.size K0 D0 (hx7.trans hx16) ho16 (by omega) (TxO.weak (TxO.ext hK0 hx16) fun q _ hb => hb.imp (fun h => h.1) id) (hD0.chg hc16 fun q hq e => by have := hf63 q hq; omega) (fun q hq => ⟨hf7 q hq, by have := hkl q hq; omega⟩) fun q hq => ⟨by have := hf63 q hq; omega, by have := hf63 q hq; omega, fun h => by have := hkl q h; have := hf63 q hq; omega⟩
 · rw [e0]
   refine nxVar (vs := [.bool false, .slice none 0 0, .slice none 0 0, .slice none 0 0]) rfl fun w62 ho62 hx62 hs62 => ⟨hx62, (tx_CloneR (TxR.ext hsK hx62) (by rw [List.length_take]; omega)).use ?_⟩
   rintro _ w7 ⟨K0, rfl, hK0, hx7, hf7⟩
   have hz7 := hx7.size
   refine ⟨K0, rfl, hx7, (int_Clone ((hsD.1.ext hx62).ext hx7) (by rw [List.length_take]; omega)).use ?_⟩
   rintro _ w63 ⟨D0, rfl, hD0, hx63, hf63⟩
   have ho63 := (ho62.ext hx7).ext hx63
   refine ⟨D0, rfl, hx63, _, buildNd K0 D0, ho63.storeOk rfl (plain4 (b := false) (K := K0) (V := ⟨none, 0, 0⟩) (D := D0)), rfl, nxPut ho63 (us := [.bool false, .slice K0.a K0.len K0.cap, .slice none 0 0, .slice D0.a D0.len D0.cap]) rfl rfl fun w16 ho16 hc16 hs16 => ?_⟩
   have hx16 : Ext w3 w16 := Ext.of_chg ((hx62.trans hx7).trans hx63) hc16 (Nat.le_refl _)
   have hkl : ∀ q, ownB K0 q → q < w7.heap.size := fun q hq => by
     obtain ⟨ts, _, h4, _, _⟩ := hK0
     exact h4.lt q hq
   have hK1 : TxO (fun q => (B q ∧ q < w.heap.size) ∨ (w3.heap.size ≤ q ∧ ownB K0 q)) w16 K0 (n.keys.take fr) := by
     have h5 := TxO.weak (C := fun q => (B q ∧ q < w.heap.size) ∨ (w62.heap.size ≤ q ∧ ownB K0 q)) (TxO.ext hK0 hx63) fun q _ hb => hb.imp (fun h => h.1) id
     exact TxO.weak (TxO.chg h5 hc16 fun q hb e => by rcases hb with hb | hb <;> omega) fun q _ hb => hb.imp id fun h => ⟨by omega, h.2⟩
   exact fin w16 w3.heap.size K0 D0 hx16 ho16 (Nat.le_refl _) hK1 (hD0.chg hc16 fun q hq e => by have := hf63 q hq; omega) (fun q hq => ⟨by have := hf7 q hq; omega, by have := hf7 q hq; omega⟩) fun q hq => ⟨by have := hf63 q hq; omega, by have := hf63 q hq; omega, fun h => by have := hkl q h; have := hf63 q hq; omega⟩
end Go.Proofs.YtplieiecebljmaaGreat
namespace Go.Proofs.YtplieiecebljmaaGreat
open Go Gx
def FitOk (n : Nd) : Prop := SoundN n ∧ nsize n ≤ 400 ∧ (232 < nsize n → 1 ≤ cutIx n ∧ (if n.leaf then cutIx n ≤ n.keys.length - 1 ∧ 1 ≤ n.keys.length - 1 else cutIx n ≤ n.keys.length - 2 ∧ 1 ≤ n.keys.length - 2) ∧ nsize (n.left (cutIx n)) ≤ 232 ∧ nsize (n.right (cutIx n)) ≤ 232)
structure UpAt (B : Nat → Prop) (w : World) (A : Addr) (u : Sp) : Prop where
 c1 : w.cell? (A.add 1) = some (.bool u.n.leaf)
 c2 : w.cell? ((A.add 1).add 1) = some (.slice u.K.a u.K.len u.K.cap)
 c3 : w.cell? ((A.add 1).add 2) = some (.slice u.V.a u.V.len u.V.cap)
 c4 : w.cell? ((A.add 1).add 3) = some (.slice u.D.a u.D.len u.D.cap)
 c5 : w.cell? (A.add 5) = some (.int .i64 (u.kid : Nat))
 nd : NdAt B w u.n u.K u.V u.D
 blk : B A.block
 lt : A.block < w.heap.size
theorem UpAt.ext {B : Nat → Prop} {w w' : World} {A : Addr} {u : Sp} (h : UpAt B w A u) (hx : Ext w w') : UpAt B w' A u :=
 ⟨Chg.cell hx (fun h => h) h.c1, Chg.cell hx (fun h => h) h.c2, Chg.cell hx (fun h => h) h.c3, Chg.cell hx (fun h => h) h.c4, Chg.cell hx (fun h => h) h.c5, h.nd.ext hx, h.blk, Nat.lt_of_lt_of_le h.lt hx.size⟩
theorem UpAt.to {w w' : World} {T T' : Tr} {k : Nat} {A : Addr} {u : Sp} (h : UpAt (fun q => ¬ T.M q) w A u) (ht : TTo T T' w w' k) : UpAt (fun q => ¬ T'.M q) w' A u := by
 have hc := ht.chg
 have hN : ¬ T.N A.block := fun hn => h.blk (Tr.NM hn)
 refine ⟨Chg.cell hc (A := A.add 1) hN h.c1, Chg.cell hc (A := (A.add 1).add 1) hN h.c2, Chg.cell hc (A := (A.add 1).add 2) hN h.c3, Chg.cell hc (A := (A.add 1).add 3) hN h.c4, Chg.cell hc (A := A.add 5) hN h.c5, ?_, fun hm => ?_, Nat.lt_of_lt_of_le h.lt hc.size⟩
 · have h1 := ht.nd (lo := 0) (h.nd.weak fun q _ hb => ⟨Nat.zero_le _, hb⟩)
   exact h1.weak fun q _ hb => hb.2
 · rcases ht.fp _ hm with h1 | h1
   · exact h.blk h1
   · have := h.lt; omega
theorem FitsR.base {T : Tr} {c : Cg} {n : Nd} {w0 w w' : World} {v : Value} (h : FitsR T c n w v w') (hx : Ext w0 w) : FitsR T c n w0 v w' := by
 obtain ⟨T', c', m, s, g1, g2, g3, g4⟩ := h
 exact ⟨T', c', m, s, g1, ((CTU.ext T c hx).trans g2).mono (by omega), g3, g4⟩
theorem FitsR.out {T : Tr} {c : Cg} {n : Nd} {w w' : World} {v : Value} (h : FitsR T c n w v w') : ∃ (s : Sl) (e : Int), v = .tuple #[.slice s.a s.len s.cap, .int .i64 e] := by
 obtain ⟨T', c', m, s, g1, g2, g3, g4⟩ := h
 rcases g4 with ⟨ks, rfl, _⟩ | ⟨rfl, _⟩
 · exact ⟨s, 0, rfl⟩
 · exact ⟨s, 3, rfl⟩
def LTail2 (nb ob av bv : Nat) (c up : Option Addr) (n31 n36 : Int) (wT : World) (Q : Value → World → Prop) : Prop :=
 Jn ( fun k77 : World → Prop => ∃ a78 : Addr, up = some a78 ∧ ∃ n79 : Int, wT.cell? (a78.add 5) = some (.int .i64 n79) ∧ ( (decide ((n36 : Int) > n79)) = true → Nx (wT.drew) fun w80 => ∃ W81 : Nat → Prop, ¬ W81 (⟨nb, 0, none⟩ : Addr).block ∧ ∃ b82 : Bool, w80.cell? ⟨nb, 0, none⟩ = some (.bool b82) ∧ ∃ s83 : Sl, w80.cell? (Addr.add ⟨nb, 0, none⟩ 1) = some (.slice s83.a s83.len s83.cap) ∧ ∃ s84 : Sl, w80.cell? (Addr.add ⟨nb, 0, none⟩ 2) = some (.slice s84.a s84.len s84.cap) ∧ ∃ s85 : Sl, w80.cell? (Addr.add ⟨nb, 0, none⟩ 3) = some (.slice s85.a s85.len s85.cap) ∧ ¬ W81 (⟨ob, 0, none⟩ : Addr).block ∧ ∃ b86 : Bool, w80.cell? ⟨ob, 0, none⟩ = some (.bool b86) ∧ ∃ s87 : Sl, w80.cell? (Addr.add ⟨ob, 0, none⟩ 1) = some (.slice s87.a s87.len s87.cap) ∧ ∃ s88 : Sl, w80.cell? (Addr.add ⟨ob, 0, none⟩ 2) = some (.slice s88.a s88.len s88.cap) ∧ ∃ s89 : Sl, w80.cell? (Addr.add ⟨ob, 0, none⟩ 3) = some (.slice s89.a s89.len s89.cap) ∧ StoreOk w80 ⟨av, 0, none⟩ [.bool b82, .slice s83.a s83.len s83.cap, .slice s84.a s84.len s84.cap, .slice s85.a s85.len s85.cap] ∧ (4 : Nat) = 4 ∧ Nx ( setCells w80 ⟨av, 0, none⟩ 0 [.bool b82, .slice s83.a s83.len s83.cap, .slice s84.a s84.len s84.cap, .slice s85.a s85.len s85.cap]) fun w90 => Chg W81 w80 w90 ∧ StoreOk w90 ⟨bv, 0, none⟩ [.bool b86, .slice s87.a s87.len s87.cap, .slice s88.a s88.len s88.cap, .slice s89.a s89.len s89.cap] ∧ (4 : Nat) = 4 ∧ Nx ( setCells w90 ⟨bv, 0, none⟩ 0 [.bool b86, .slice s87.a s87.len s87.cap, .slice s88.a s88.len s88.cap, .slice s89.a s89.len s89.cap]) fun w91 => k77 w91) ∧ ((decide ((n36 : Int) > n79)) = false → k77 wT)) ( fun (w92 : World) => Nx (w92.drew) fun w93 => ∃ W94 : Nat → Prop, ¬ W94 (⟨av, 0, none⟩ : Addr).block ∧ ∃ b95 : Bool, w93.cell? ⟨av, 0, none⟩ = some (.bool b95) ∧ ∃ s96 : Sl, w93.cell? (Addr.add ⟨av, 0, none⟩ 1) = some (.slice s96.a s96.len s96.cap) ∧ ∃ s97 : Sl, w93.cell? (Addr.add ⟨av, 0, none⟩ 2) = some (.slice s97.a s97.len s97.cap) ∧ ∃ s98 : Sl, w93.cell? (Addr.add ⟨av, 0, none⟩ 3) = some (.slice s98.a s98.len s98.cap) ∧ ∃ a99 : Addr, up = some a99 ∧ ¬ W94 ((a99.add 1).add 1).block ∧ ∃ s100 : Sl, w93.cell? ((a99.add 1).add 1) = some (.slice s100.a s100.len s100.cap) ∧ ∃ a101 : Addr, s100.a = some a101 ∧ ((0 : Int) ≤ n31 ∧ n31 < ((s100.len : Nat) : Int)) ∧ ¬ W94 (a101.add (Int.toNat n31 * 1)).block ∧ ∃ s102 : Sl, w93.cell? (a101.add (Int.toNat n31 * 1)) = some (.slice s102.a s102.len s102.cap) ∧ ¬ W94 (⟨bv, 0, none⟩ : Addr).block ∧ ∃ b103 : Bool, w93.cell? ⟨bv, 0, none⟩ = some (.bool b103) ∧ ∃ s104 : Sl, w93.cell? (Addr.add ⟨bv, 0, none⟩ 1) = some (.slice s104.a s104.len s104.cap) ∧ ∃ s105 : Sl, w93.cell? (Addr.add ⟨bv, 0, none⟩ 2) = some (.slice s105.a s105.len s105.cap) ∧ ∃ s106 : Sl, w93.cell? (Addr.add ⟨bv, 0, none⟩ 3) = some (.slice s106.a s106.len s106.cap) ∧ ( Calls Tryz.prog F.node_Merge #[.agg #[.bool b95, .slice s96.a s96.len s96.cap, .slice s97.a s97.len s97.cap, .slice s98.a s98.len s98.cap], .slice s102.a s102.len s102.cap, .agg #[.bool b103, .slice s104.a s104.len s104.cap, .slice s105.a s105.len s105.cap, .slice s106.a s106.len s106.cap]] w93 fun e108 w107 => ∃ b109 : Bool, ∃ s110 : Sl, ∃ s111 : Sl, ∃ s112 : Sl, ∃ b113 : Bool, e108 = .returned ( .tuple #[.agg #[.bool b109, .slice s110.a s110.len s110.cap, .slice s111.a s111.len s111.cap, .slice s112.a s112.len s112.cap], .bool b113]) ∧ Chg W94 w93 w107 ∧ Nx (w107.alloc (.cells #[.bool false, .slice none 0 0, .slice none 0 0, .slice none 0 0] Ty.api_Node)) fun w114 => Chg W94 w107 w114 ∧ StoreOk w114 ⟨w107.heap.size, 0, none⟩ [.bool b109, .slice s110.a s110.len s110.cap, .slice s111.a s111.len s111.cap, .slice s112.a s112.len s112.cap] ∧ (4 : Nat) = 4 ∧ Nx ( setCells w114 ⟨w107.heap.size, 0, none⟩ 0 [.bool b109, .slice s110.a s110.len s110.cap, .slice s111.a s111.len s111.cap, .slice s112.a s112.len s112.cap]) fun w115 => ((!b113) = true → Q (.tuple #[.slice none 0 0, .int .i64 0, .int .i64 0, .int .i64 4]) w115) ∧ ( (!b113) = false → ∃ b116 : Bool, w115.cell? ⟨w107.heap.size, 0, none⟩ = some (.bool b116) ∧ ∃ s117 : Sl, w115.cell? (Addr.add ⟨w107.heap.size, 0, none⟩ 1) = some (.slice s117.a s117.len s117.cap) ∧ ∃ s118 : Sl, w115.cell? (Addr.add ⟨w107.heap.size, 0, none⟩ 2) = some (.slice s118.a s118.len s118.cap) ∧ ∃ s119 : Sl, w115.cell? (Addr.add ⟨w107.heap.size, 0, none⟩ 3) = some (.slice s119.a s119.len s119.cap) ∧ Calls Tryz.prog F.tree_change_fits #[.pointer c, .agg #[.bool b116, .slice s117.a s117.len s117.cap, .slice s118.a s118.len s118.cap, .slice s119.a s119.len s119.cap]] w115 fun e121 w120 => ∃ s122 : Sl, ∃ n123 : Int, e121 = .returned (.tuple #[.slice s122.a s122.len s122.cap, .int .i64 n123]) ∧ Q ( .tuple #[.slice s122.a s122.len s122.cap, .int .i64 n31, .int .i64 (IntKind.wrap .i64 (n31 + 2)), .int .i64 n123]) w120) ) ∧ ( Nx (w93.alloc (.cells #[.bool false, .slice none 0 0, .slice none 0 0, .slice none 0 0] Ty.api_Node)) fun w124 => Chg W94 w93 w124 ∧ Calls Tryz.prog F.node_Merge #[.agg #[.bool b95, .slice s96.a s96.len s96.cap, .slice s97.a s97.len s97.cap, .slice s98.a s98.len s98.cap], .slice s102.a s102.len s102.cap, .agg #[.bool b103, .slice s104.a s104.len s104.cap, .slice s105.a s105.len s105.cap, .slice s106.a s106.len s106.cap]] w124 fun e126 w125 => ∃ b127 : Bool, ∃ s128 : Sl, ∃ s129 : Sl, ∃ s130 : Sl, ∃ b131 : Bool, e126 = .returned ( .tuple #[.agg #[.bool b127, .slice s128.a s128.len s128.cap, .slice s129.a s129.len s129.cap, .slice s130.a s130.len s130.cap], .bool b131]) ∧ Chg W94 w124 w125 ∧ StoreOk w125 ⟨w93.heap.size, 0, none⟩ [.bool b127, .slice s128.a s128.len s128.cap, .slice s129.a s129.len s129.cap, .slice s130.a s130.len s130.cap] ∧ (4 : Nat) = 4 ∧ Nx ( setCells w125 ⟨w93.heap.size, 0, none⟩ 0 [.bool b127, .slice s128.a s128.len s128.cap, .slice s129.a s129.len s129.cap, .slice s130.a s130.len s130.cap]) fun w132 => ((!b131) = true → Q (.tuple #[.slice none 0 0, .int .i64 0, .int .i64 0, .int .i64 4]) w132) ∧ ( (!b131) = false → ∃ b133 : Bool, w132.cell? ⟨w93.heap.size, 0, none⟩ = some (.bool b133) ∧ ∃ s134 : Sl, w132.cell? (Addr.add ⟨w93.heap.size, 0, none⟩ 1) = some (.slice s134.a s134.len s134.cap) ∧ ∃ s135 : Sl, w132.cell? (Addr.add ⟨w93.heap.size, 0, none⟩ 2) = some (.slice s135.a s135.len s135.cap) ∧ ∃ s136 : Sl, w132.cell? (Addr.add ⟨w93.heap.size, 0, none⟩ 3) = some (.slice s136.a s136.len s136.cap) ∧ Calls Tryz.prog F.tree_change_fits #[.pointer c, .agg #[.bool b133, .slice s134.a s134.len s134.cap, .slice s135.a s135.len s135.cap, .slice s136.a s136.len s136.cap]] w132 fun e138 w137 => ∃ s139 : Sl, ∃ n140 : Int, e138 = .returned (.tuple #[.slice s139.a s139.len s139.cap, .int .i64 n140]) ∧ Q ( .tuple #[.slice s139.a s139.len s139.cap, .int .i64 n31, .int .i64 (IntKind.wrap .i64 (n31 + 2)), .int .i64 n140]) w137) ) )
theorem lTail2 {Bn Bo : Nat → Prop} {w0 wT : World} {T : Tr} {c : Cg} {nb ob av bv : Nat} {A : Addr} {u : Sp} {n o : Nd} {K V D Ko Vo Do : Sl} {fr other : Nat} {Q : Value → World → Prop} (h : CgAt w0 T c) (hx : Ext w0 wT) (hnb : Var w0 nb (ndL n K V D) Ty.api_Node) (hob : Var w0 ob (ndL o Ko Vo Do) Ty.api_Node)
   (hav : Var wT av (ndL o Ko Vo Do) Ty.api_Node) (hbv : Var wT bv (ndL n K V D) Ty.api_Node) (h1 : w0.heap.size ≤ av) (h2 : w0.heap.size ≤ bv) (h3 : av ≠ bv) (hn : NdAt Bn w0 n K V D) (ho : NdAt Bo w0 o Ko Vo Do) (hu : UpAt (fun q => ¬ T.M q) w0 A u)
   (hld : T.C.D.ld ≤ 900000090) (hroom : 2 ≤ roomT T) (hml : c.made.length ≤ 900) (sn : SoundN n) (so : SoundN o) (zn : nsize n ≤ 400) (zo : nsize o ≤ 400) (hl : o.leaf = n.leaf) (hfr : fr < u.n.keys.length) (hkey : keyOk u.n.keys[fr]) (m : Nd) (hm : m = if u.kid < other then mergeN n u.n.keys[fr] o else mergeN o u.n.keys[fr] n) (hfit : FitOk m) (hf2 : fr ≤ 1000)
   (hQ : ∀ (s : Sl) (e : Int) (w' : World), FitsR T c m w0 (.tuple #[.slice s.a s.len s.cap, .int .i64 e]) w' → Q (.tuple #[.slice s.a s.len s.cap, .int .i64 (fr : Nat), .int .i64 ((fr + 2 : Nat) : Int), .int .i64 e]) w') :
   LTail2 nb ob av bv (some ⟨c.cb, 0, none⟩) (some A) (fr : Nat) (other : Nat) wT Q := by
 have hnl := hnb.lt
 have hol := hob.lt
 have hz := hx.size
 have fn := sn.few (by omega)
 have fo := so.few (by omega)
 unfold LTail2
 refine Jn0 (fun w92 => ∃ (a b : Nd) (Ka Va Da Kb Vb Db : Sl) (Ba Bb : Nat → Prop), Ext w0 w92 ∧ Var w92 av (ndL a Ka Va Da) Ty.api_Node ∧ Var w92 bv (ndL b Kb Vb Db) Ty.api_Node ∧ NdAt Ba w0 a Ka Va Da ∧ NdAt Bb w0 b Kb Vb Db ∧ m = mergeN a u.n.keys[fr] b ∧ SoundN a ∧ SoundN b ∧ a.leaf = b.leaf ∧ a.keys.length ≤ 200 ∧ b.keys.length ≤ 200)
   (fun q hq => ⟨A, rfl, _, (hu.ext hx).c5, fun hb => ?_, fun hb => hq _ ⟨o, n, Ko, Vo, Do, K, V, D, Bo, Bn, hx, hav, hbv, ho, hn, ?_, so, sn, hl, by omega, by omega⟩⟩) ?_
 · have hb : u.kid < other := by
     have : ((other : Nat) : Int) > ((u.kid : Nat) : Int) := of_decide_eq_true hb
     omega
   have hxd := hx.trans (ext_drew wT)
   obtain ⟨n0, n1, n2, n3⟩ := ndCells (hnb.ext hxd)
   obtain ⟨o0, o1, o2, o3⟩ := ndCells (hob.ext hxd)
   have hav' := hav.drew
   have hbv' := hbv.drew
   refine nx ⟨fun q => q = av, (show nb ≠ av by omega), _, n0, K, n1, V, n2, D, n3, (show ob ≠ av by omega), _, o0, Ko, o1, Vo, o2, Do, o3, hav'.storeOk rfl plain4, rfl, nxPut hav' (us := ndL n K V D) rfl rfl fun w90 ha90 hc90 hs90 => ?_⟩
   have hb90 := hbv'.chg hc90 (fun e => h3 e.symm)
   refine ⟨hc90, hb90.storeOk rfl plain4, rfl, nxPut hb90 (us := ndL o Ko Vo Do) rfl rfl fun w91 hb91 hc91 hs91 => ?_⟩
   exact hq _ ⟨n, o, K, V, D, Ko, Vo, Do, Bn, Bo, Ext.of_chg (Ext.of_chg hxd hc90 h1) hc91 h2, ha90.chg hc91 h3, hb91, hn, ho, by rw [hm, if_pos hb], sn, so, hl.symm, by omega, by omega⟩
 · have hb : ¬ u.kid < other := by
     have : ¬ ((other : Nat) : Int) > ((u.kid : Nat) : Int) := of_decide_eq_false hb
     omega
   rw [hm, if_neg hb]
 rintro w92 ⟨a, b, Ka, Va, Da, Kb, Vb, Db, Ba, Bb, hx92, ha, hb, hna, hnb', hm', sa, sb, hab, la, lb⟩
 have hxd := hx92.trans (ext_drew w92)
 have had := ha.drew
 have hbd := hb.drew
 obtain ⟨a0, a1, a2, a3⟩ := ndCells had
 obtain ⟨b0, b1, b2, b3⟩ := ndCells hbd
 have hud := hu.ext hxd
 obtain ⟨Ak, tk, hAk, hbk, hck, htk, hBk⟩ := TxR.at hud.nd.keys hfr
 have hm3 : SoundN (mergeN a u.n.keys[fr] b) := by rw [← hm']; exact hfit.1
 have hmerge := node_Merge (hna.ext hxd) (hnb'.ext hxd) htk.1 (fun q hq => (htk.2.2 q hq).2) (by have := hkey.2; omega) sa sb hab hm3 (by omega) (by omega)
 rw [← hm'] at hmerge
 have hwr : IntKind.wrap .i64 (((fr : Nat) : Int) + 2) = ((fr + 2 : Nat) : Int) := by rw [wrapi (by omega) (by omega)]; rfl
 obtain ⟨wd, hwd⟩ : ∃ wd, wd = w92.drew := ⟨_, rfl⟩
 refine nx ⟨fun _ => False, id, _, a0, Ka, a1, Va, a2, Da, a3, A, rfl, id, u.K, hud.c2, Ak, hAk, hbk, id, tk, hck, id, _, b0, Kb, b1, Vb, b2, Db, b3, ?_, ?_⟩
 · refine hmerge.use ?_
   rintro _ w107 ⟨Km, Vm, Dm, rfl, hnm, hxm⟩
   refine ⟨_, Km, Vm, Dm, true, rfl, hxm, nxVar (vs := [.bool false, .slice none 0 0, .slice none 0 0, .slice none 0 0]) rfl fun w114 hp114 hx114 hs114 => ⟨hx114, hp114.storeOk rfl plain4, rfl, nxPut hp114 (us := ndL m Km Vm Dm) rfl rfl fun w115 hp115 hc115 hs115 => ⟨fun hb => (by cases hb), fun _ => ?_⟩⟩⟩
   have hx115 : Ext w107 w115 := Ext.of_chg hx114 hc115 (Nat.le_refl _)
   have hX := (hxd.trans hxm).trans hx115
   obtain ⟨m0, m1, m2, m3⟩ := ndCells hp115
   refine ⟨_, m0, Km, m1, Vm, m2, Dm, m3, (change_fits (h.ext hX) hld hroom hml (hnm.ext hx115) hfit.1 hfit.2.1 hfit.2.2).use ?_⟩
   intro v w' hv
   obtain ⟨s, e, rfl⟩ := hv.out
   rw [hwr]
   exact ⟨s, e, rfl, hQ s e w' (hv.base hX)⟩
 · refine nxVar (vs := [.bool false, .slice none 0 0, .slice none 0 0, .slice none 0 0]) rfl fun w124 hp124 hx124 hs124 => ⟨hx124, ?_⟩
   have hmerge := node_Merge ((hna.ext hxd).ext hx124) ((hnb'.ext hxd).ext hx124) (htk.1.ext hx124) (fun q hq => Nat.lt_of_lt_of_le (htk.2.2 q hq).2 hx124.size) (by have := hkey.2; omega) sa sb hab hm3 (by omega) (by omega)
   rw [← hm'] at hmerge
   refine hmerge.use ?_
   rintro _ w125 ⟨Km, Vm, Dm, rfl, hnm, hxm⟩
   have hp125 := hp124.ext hxm
   refine ⟨_, Km, Vm, Dm, true, rfl, hxm, hp125.storeOk rfl plain4, rfl, nxPut hp125 (us := ndL m Km Vm Dm) rfl rfl fun w115 hp115 hc115 hs115 => ⟨fun hb => (by cases hb), fun _ => ?_⟩⟩
   have hx115 : Ext w92.drew w115 := Ext.of_chg (hx124.trans hxm) hc115 (Nat.le_refl _)
   have hX := hxd.trans hx115
   have hnm' := NdAt.chg hnm hc115 fun q hq e => by omega
   obtain ⟨m0, m1, m2, m3⟩ := ndCells hp115
   refine ⟨_, m0, Km, m1, Vm, m2, Dm, m3, (change_fits (h.ext hX) hld hroom hml hnm' hfit.1 hfit.2.1 hfit.2.2).use ?_⟩
   intro v w' hv
   obtain ⟨s, e, rfl⟩ := hv.out
   rw [hwr]
   exact ⟨s, e, rfl, hQ s e w' (hv.base hX)⟩
end Go.Proofs.YtplieiecebljmaaGreat
namespace Go.Proofs.YtplieiecebljmaaGreat
open Go Gx
theorem CTU.leave {T : Tr} {c c' : Cg} {E G : Nat → Prop} {w w' : World} {no : Nat} (h : TTo T (T.wO E G) w w' 0) (hE : E = T.E) (hG : ∀ q, T.G q → G q) (h1 : c'.cb = c.cb) (h2 : c'.made = c.made) (h3 : c'.left = c.left ++ [no]) : CTU T (T.wO E G) c c' [] [no] w w' 0 :=
 ⟨h, hE, hG, rfl, rfl, h1, by rw [h2, List.append_nil], h3, List.nodup_nil, fun _ h => (by cases h), fun no => by simp [Tr.wO], fun _ _ => ⟨rfl, rfl⟩, by simp [roomT, Tr.wO]⟩
def LTail1 (nb ob : Nat) (c up : Option Addr) (n31 n36 n41 n53 : Int) (wT : World) (Q : Value → World → Prop) : Prop :=
 ( ((n53 : Int) != 0) = true → Q (.tuple #[.slice none 0 0, .int .i64 0, .int .i64 0, .int .i64 n53]) wT) ∧ ( ((n53 : Int) != 0) = false → ∃ a56 : Addr, c = some a56 ∧ ∃ s57 : Sl, wT.cell? (a56.add 2) = some (.slice s57.a s57.len s57.cap) ∧ Nx (wT.alloc (.cells #[.int .i64 n41] Ty.int)) fun w58 => ∃ s59 : Sl, ∃ w60 : World, Sem.run Tryz.prog ( Builtin.append_ #[Ty.Sl_int, Ty.Sl_int] Ty.Sl_int #[.slice s57.a s57.len s57.cap, .slice (some ⟨wT.heap.size, 0, none⟩) 1 1]) w58 = .ok (.slice s59.a s59.len s59.cap) w60 ∧ ∃ a61 : Addr, c = some a61 ∧ (∃ u : Value, w60.cell? (a61.add 2) = some u) ∧ w60.frozen? (a61.add 2) = false ∧ Nx (w60.setCell (a61.add 2) (.slice s59.a s59.len s59.cap)) fun w62 => Nx (w62.drew) fun w63 => ∃ W64 : Nat → Prop, ¬ W64 (⟨ob, 0, none⟩ : Addr).block ∧ ∃ b65 : Bool, w63.cell? ⟨ob, 0, none⟩ = some (.bool b65) ∧ ∃ s66 : Sl, w63.cell? (Addr.add ⟨ob, 0, none⟩ 1) = some (.slice s66.a s66.len s66.cap) ∧ ∃ s67 : Sl, w63.cell? (Addr.add ⟨ob, 0, none⟩ 2) = some (.slice s67.a s67.len s67.cap) ∧ ∃ s68 : Sl, w63.cell? (Addr.add ⟨ob, 0, none⟩ 3) = some (.slice s68.a s68.len s68.cap) ∧ ¬ W64 (⟨nb, 0, none⟩ : Addr).block ∧ ∃ b69 : Bool, w63.cell? ⟨nb, 0, none⟩ = some (.bool b69) ∧ ∃ s70 : Sl, w63.cell? (Addr.add ⟨nb, 0, none⟩ 1) = some (.slice s70.a s70.len s70.cap) ∧ ∃ s71 : Sl, w63.cell? (Addr.add ⟨nb, 0, none⟩ 2) = some (.slice s71.a s71.len s71.cap) ∧ ∃ s72 : Sl, w63.cell? (Addr.add ⟨nb, 0, none⟩ 3) = some (.slice s72.a s72.len s72.cap) ∧ ( Nx (w63.alloc (.cells #[.bool false, .slice none 0 0, .slice none 0 0, .slice none 0 0] Ty.api_Node)) fun w73 => Chg W64 w63 w73 ∧ Nx (w73.alloc (.cells #[.bool false, .slice none 0 0, .slice none 0 0, .slice none 0 0] Ty.api_Node)) fun w74 => Chg W64 w73 w74 ∧ StoreOk w74 ⟨w63.heap.size, 0, none⟩ [.bool b65, .slice s66.a s66.len s66.cap, .slice s67.a s67.len s67.cap, .slice s68.a s68.len s68.cap] ∧ (4 : Nat) = 4 ∧ Nx ( setCells w74 ⟨w63.heap.size, 0, none⟩ 0 [.bool b65, .slice s66.a s66.len s66.cap, .slice s67.a s67.len s67.cap, .slice s68.a s68.len s68.cap]) fun w75 => Chg W64 w74 w75 ∧ StoreOk w75 ⟨w73.heap.size, 0, none⟩ [.bool b69, .slice s70.a s70.len s70.cap, .slice s71.a s71.len s71.cap, .slice s72.a s72.len s72.cap] ∧ (4 : Nat) = 4 ∧ Nx ( setCells w75 ⟨w73.heap.size, 0, none⟩ 0 [.bool b69, .slice s70.a s70.len s70.cap, .slice s71.a s71.len s71.cap, .slice s72.a s72.len s72.cap]) fun w76 => Jn ( fun k77 : World → Prop => ∃ a78 : Addr, up = some a78 ∧ ∃ n79 : Int, w76.cell? (a78.add 5) = some (.int .i64 n79) ∧ ( (decide ((n36 : Int) > n79)) = true → Nx (w76.drew) fun w80 => ∃ W81 : Nat → Prop, ¬ W81 (⟨nb, 0, none⟩ : Addr).block ∧ ∃ b82 : Bool, w80.cell? ⟨nb, 0, none⟩ = some (.bool b82) ∧ ∃ s83 : Sl, w80.cell? (Addr.add ⟨nb, 0, none⟩ 1) = some (.slice s83.a s83.len s83.cap) ∧ ∃ s84 : Sl, w80.cell? (Addr.add ⟨nb, 0, none⟩ 2) = some (.slice s84.a s84.len s84.cap) ∧ ∃ s85 : Sl, w80.cell? (Addr.add ⟨nb, 0, none⟩ 3) = some (.slice s85.a s85.len s85.cap) ∧ ¬ W81 (⟨ob, 0, none⟩ : Addr).block ∧ ∃ b86 : Bool, w80.cell? ⟨ob, 0, none⟩ = some (.bool b86) ∧ ∃ s87 : Sl, w80.cell? (Addr.add ⟨ob, 0, none⟩ 1) = some (.slice s87.a s87.len s87.cap) ∧ ∃ s88 : Sl, w80.cell? (Addr.add ⟨ob, 0, none⟩ 2) = some (.slice s88.a s88.len s88.cap) ∧ ∃ s89 : Sl, w80.cell? (Addr.add ⟨ob, 0, none⟩ 3) = some (.slice s89.a s89.len s89.cap) ∧ StoreOk w80 ⟨w63.heap.size, 0, none⟩ [.bool b82, .slice s83.a s83.len s83.cap, .slice s84.a s84.len s84.cap, .slice s85.a s85.len s85.cap] ∧ (4 : Nat) = 4 ∧ Nx ( setCells w80 ⟨w63.heap.size, 0, none⟩ 0 [.bool b82, .slice s83.a s83.len s83.cap, .slice s84.a s84.len s84.cap, .slice s85.a s85.len s85.cap]) fun w90 => Chg W81 w80 w90 ∧ StoreOk w90 ⟨w73.heap.size, 0, none⟩ [.bool b86, .slice s87.a s87.len s87.cap, .slice s88.a s88.len s88.cap, .slice s89.a s89.len s89.cap] ∧ (4 : Nat) = 4 ∧ Nx ( setCells w90 ⟨w73.heap.size, 0, none⟩ 0 [.bool b86, .slice s87.a s87.len s87.cap, .slice s88.a s88.len s88.cap, .slice s89.a s89.len s89.cap]) fun w91 => k77 w91) ∧ ((decide ((n36 : Int) > n79)) = false → k77 w76)) ( fun (w92 : World) => Nx (w92.drew) fun w93 => ∃ W94 : Nat → Prop, ¬ W94 (⟨w63.heap.size, 0, none⟩ : Addr).block ∧ ∃ b95 : Bool, w93.cell? ⟨w63.heap.size, 0, none⟩ = some (.bool b95) ∧ ∃ s96 : Sl, w93.cell? (Addr.add ⟨w63.heap.size, 0, none⟩ 1) = some (.slice s96.a s96.len s96.cap) ∧ ∃ s97 : Sl, w93.cell? (Addr.add ⟨w63.heap.size, 0, none⟩ 2) = some (.slice s97.a s97.len s97.cap) ∧ ∃ s98 : Sl, w93.cell? (Addr.add ⟨w63.heap.size, 0, none⟩ 3) = some (.slice s98.a s98.len s98.cap) ∧ ∃ a99 : Addr, up = some a99 ∧ ¬ W94 ((a99.add 1).add 1).block ∧ ∃ s100 : Sl, w93.cell? ((a99.add 1).add 1) = some (.slice s100.a s100.len s100.cap) ∧ ∃ a101 : Addr, s100.a = some a101 ∧ ((0 : Int) ≤ n31 ∧ n31 < ((s100.len : Nat) : Int)) ∧ ¬ W94 (a101.add (Int.toNat n31 * 1)).block ∧ ∃ s102 : Sl, w93.cell? (a101.add (Int.toNat n31 * 1)) = some (.slice s102.a s102.len s102.cap) ∧ ¬ W94 (⟨w73.heap.size, 0, none⟩ : Addr).block ∧ ∃ b103 : Bool, w93.cell? ⟨w73.heap.size, 0, none⟩ = some (.bool b103) ∧ ∃ s104 : Sl, w93.cell? (Addr.add ⟨w73.heap.size, 0, none⟩ 1) = some (.slice s104.a s104.len s104.cap) ∧ ∃ s105 : Sl, w93.cell? (Addr.add ⟨w73.heap.size, 0, none⟩ 2) = some (.slice s105.a s105.len s105.cap) ∧ ∃ s106 : Sl, w93.cell? (Addr.add ⟨w73.heap.size, 0, none⟩ 3) = some (.slice s106.a s106.len s106.cap) ∧ ( Calls Tryz.prog F.node_Merge #[.agg #[.bool b95, .slice s96.a s96.len s96.cap, .slice s97.a s97.len s97.cap, .slice s98.a s98.len s98.cap], .slice s102.a s102.len s102.cap, .agg #[.bool b103, .slice s104.a s104.len s104.cap, .slice s105.a s105.len s105.cap, .slice s106.a s106.len s106.cap]] w93 fun e108 w107 => ∃ b109 : Bool, ∃ s110 : Sl, ∃ s111 : Sl, ∃ s112 : Sl, ∃ b113 : Bool, e108 = .returned ( .tuple #[.agg #[.bool b109, .slice s110.a s110.len s110.cap, .slice s111.a s111.len s111.cap, .slice s112.a s112.len s112.cap], .bool b113]) ∧ Chg W94 w93 w107 ∧ Nx (w107.alloc (.cells #[.bool false, .slice none 0 0, .slice none 0 0, .slice none 0 0] Ty.api_Node)) fun w114 => Chg W94 w107 w114 ∧ StoreOk w114 ⟨w107.heap.size, 0, none⟩ [.bool b109, .slice s110.a s110.len s110.cap, .slice s111.a s111.len s111.cap, .slice s112.a s112.len s112.cap] ∧ (4 : Nat) = 4 ∧ Nx ( setCells w114 ⟨w107.heap.size, 0, none⟩ 0 [.bool b109, .slice s110.a s110.len s110.cap, .slice s111.a s111.len s111.cap, .slice s112.a s112.len s112.cap]) fun w115 => ((!b113) = true → Q (.tuple #[.slice none 0 0, .int .i64 0, .int .i64 0, .int .i64 4]) w115) ∧ ( (!b113) = false → ∃ b116 : Bool, w115.cell? ⟨w107.heap.size, 0, none⟩ = some (.bool b116) ∧ ∃ s117 : Sl, w115.cell? (Addr.add ⟨w107.heap.size, 0, none⟩ 1) = some (.slice s117.a s117.len s117.cap) ∧ ∃ s118 : Sl, w115.cell? (Addr.add ⟨w107.heap.size, 0, none⟩ 2) = some (.slice s118.a s118.len s118.cap) ∧ ∃ s119 : Sl, w115.cell? (Addr.add ⟨w107.heap.size, 0, none⟩ 3) = some (.slice s119.a s119.len s119.cap) ∧ Calls Tryz.prog F.tree_change_fits #[.pointer c, .agg #[.bool b116, .slice s117.a s117.len s117.cap, .slice s118.a s118.len s118.cap, .slice s119.a s119.len s119.cap]] w115 fun e121 w120 => ∃ s122 : Sl, ∃ n123 : Int, e121 = .returned (.tuple #[.slice s122.a s122.len s122.cap, .int .i64 n123]) ∧ Q ( .tuple #[.slice s122.a s122.len s122.cap, .int .i64 n31, .int .i64 (IntKind.wrap .i64 (n31 + 2)), .int .i64 n123]) w120) ) ∧ ( Nx (w93.alloc (.cells #[.bool false, .slice none 0 0, .slice none 0 0, .slice none 0 0] Ty.api_Node)) fun w124 => Chg W94 w93 w124 ∧ Calls Tryz.prog F.node_Merge #[.agg #[.bool b95, .slice s96.a s96.len s96.cap, .slice s97.a s97.len s97.cap, .slice s98.a s98.len s98.cap], .slice s102.a s102.len s102.cap, .agg #[.bool b103, .slice s104.a s104.len s104.cap, .slice s105.a s105.len s105.cap, .slice s106.a s106.len s106.cap]] w124 fun e126 w125 => ∃ b127 : Bool, ∃ s128 : Sl, ∃ s129 : Sl, ∃ s130 : Sl, ∃ b131 : Bool, e126 = .returned ( .tuple #[.agg #[.bool b127, .slice s128.a s128.len s128.cap, .slice s129.a s129.len s129.cap, .slice s130.a s130.len s130.cap], .bool b131]) ∧ Chg W94 w124 w125 ∧ StoreOk w125 ⟨w93.heap.size, 0, none⟩ [.bool b127, .slice s128.a s128.len s128.cap, .slice s129.a s129.len s129.cap, .slice s130.a s130.len s130.cap] ∧ (4 : Nat) = 4 ∧ Nx ( setCells w125 ⟨w93.heap.size, 0, none⟩ 0 [.bool b127, .slice s128.a s128.len s128.cap, .slice s129.a s129.len s129.cap, .slice s130.a s130.len s130.cap]) fun w132 => ((!b131) = true → Q (.tuple #[.slice none 0 0, .int .i64 0, .int .i64 0, .int .i64 4]) w132) ∧ ( (!b131) = false → ∃ b133 : Bool, w132.cell? ⟨w93.heap.size, 0, none⟩ = some (.bool b133) ∧ ∃ s134 : Sl, w132.cell? (Addr.add ⟨w93.heap.size, 0, none⟩ 1) = some (.slice s134.a s134.len s134.cap) ∧ ∃ s135 : Sl, w132.cell? (Addr.add ⟨w93.heap.size, 0, none⟩ 2) = some (.slice s135.a s135.len s135.cap) ∧ ∃ s136 : Sl, w132.cell? (Addr.add ⟨w93.heap.size, 0, none⟩ 3) = some (.slice s136.a s136.len s136.cap) ∧ Calls Tryz.prog F.tree_change_fits #[.pointer c, .agg #[.bool b133, .slice s134.a s134.len s134.cap, .slice s135.a s135.len s135.cap, .slice s136.a s136.len s136.cap]] w132 fun e138 w137 => ∃ s139 : Sl, ∃ n140 : Int, e138 = .returned (.tuple #[.slice s139.a s139.len s139.cap, .int .i64 n140]) ∧ Q ( .tuple #[.slice s139.a s139.len s139.cap, .int .i64 n31, .int .i64 (IntKind.wrap .i64 (n31 + 2)), .int .i64 n140]) w137) ) ) ) ∧ ( Nx (w63.alloc (.cells #[.bool false, .slice none 0 0, .slice none 0 0, .slice none 0 0] Ty.api_Node)) fun w141 => Chg W64 w63 w141 ∧ Nx (w141.alloc (.cells #[.bool false, .slice none 0 0, .slice none 0 0, .slice none 0 0] Ty.api_Node)) fun w142 => Chg W64 w141 w142 ∧ StoreOk w142 ⟨w141.heap.size, 0, none⟩ [.bool b65, .slice s66.a s66.len s66.cap, .slice s67.a s67.len s67.cap, .slice s68.a s68.len s68.cap] ∧ (4 : Nat) = 4 ∧ Nx ( setCells w142 ⟨w141.heap.size, 0, none⟩ 0 [.bool b65, .slice s66.a s66.len s66.cap, .slice s67.a s67.len s67.cap, .slice s68.a s68.len s68.cap]) fun w143 => Chg W64 w142 w143 ∧ StoreOk w143 ⟨w63.heap.size, 0, none⟩ [.bool b69, .slice s70.a s70.len s70.cap, .slice s71.a s71.len s71.cap, .slice s72.a s72.len s72.cap] ∧ (4 : Nat) = 4 ∧ Nx ( setCells w143 ⟨w63.heap.size, 0, none⟩ 0 [.bool b69, .slice s70.a s70.len s70.cap, .slice s71.a s71.len s71.cap, .slice s72.a s72.len s72.cap]) fun w144 => Jn ( fun k145 : World → Prop => ∃ a146 : Addr, up = some a146 ∧ ∃ n147 : Int, w144.cell? (a146.add 5) = some (.int .i64 n147) ∧ ( (decide ((n36 : Int) > n147)) = true → Nx (w144.drew) fun w148 => ∃ W149 : Nat → Prop, ¬ W149 (⟨nb, 0, none⟩ : Addr).block ∧ ∃ b150 : Bool, w148.cell? ⟨nb, 0, none⟩ = some (.bool b150) ∧ ∃ s151 : Sl, w148.cell? (Addr.add ⟨nb, 0, none⟩ 1) = some (.slice s151.a s151.len s151.cap) ∧ ∃ s152 : Sl, w148.cell? (Addr.add ⟨nb, 0, none⟩ 2) = some (.slice s152.a s152.len s152.cap) ∧ ∃ s153 : Sl, w148.cell? (Addr.add ⟨nb, 0, none⟩ 3) = some (.slice s153.a s153.len s153.cap) ∧ ¬ W149 (⟨ob, 0, none⟩ : Addr).block ∧ ∃ b154 : Bool, w148.cell? ⟨ob, 0, none⟩ = some (.bool b154) ∧ ∃ s155 : Sl, w148.cell? (Addr.add ⟨ob, 0, none⟩ 1) = some (.slice s155.a s155.len s155.cap) ∧ ∃ s156 : Sl, w148.cell? (Addr.add ⟨ob, 0, none⟩ 2) = some (.slice s156.a s156.len s156.cap) ∧ ∃ s157 : Sl, w148.cell? (Addr.add ⟨ob, 0, none⟩ 3) = some (.slice s157.a s157.len s157.cap) ∧ StoreOk w148 ⟨w141.heap.size, 0, none⟩ [.bool b150, .slice s151.a s151.len s151.cap, .slice s152.a s152.len s152.cap, .slice s153.a s153.len s153.cap] ∧ (4 : Nat) = 4 ∧ Nx ( setCells w148 ⟨w141.heap.size, 0, none⟩ 0 [.bool b150, .slice s151.a s151.len s151.cap, .slice s152.a s152.len s152.cap, .slice s153.a s153.len s153.cap]) fun w158 => Chg W149 w148 w158 ∧ StoreOk w158 ⟨w63.heap.size, 0, none⟩ [.bool b154, .slice s155.a s155.len s155.cap, .slice s156.a s156.len s156.cap, .slice s157.a s157.len s157.cap] ∧ (4 : Nat) = 4 ∧ Nx ( setCells w158 ⟨w63.heap.size, 0, none⟩ 0 [.bool b154, .slice s155.a s155.len s155.cap, .slice s156.a s156.len s156.cap, .slice s157.a s157.len s157.cap]) fun w159 => k145 w159) ∧ ((decide ((n36 : Int) > n147)) = false → k145 w144)) ( fun (w160 : World) => Nx (w160.drew) fun w161 => ∃ W162 : Nat → Prop, ¬ W162 (⟨w141.heap.size, 0, none⟩ : Addr).block ∧ ∃ b163 : Bool, w161.cell? ⟨w141.heap.size, 0, none⟩ = some (.bool b163) ∧ ∃ s164 : Sl, w161.cell? (Addr.add ⟨w141.heap.size, 0, none⟩ 1) = some (.slice s164.a s164.len s164.cap) ∧ ∃ s165 : Sl, w161.cell? (Addr.add ⟨w141.heap.size, 0, none⟩ 2) = some (.slice s165.a s165.len s165.cap) ∧ ∃ s166 : Sl, w161.cell? (Addr.add ⟨w141.heap.size, 0, none⟩ 3) = some (.slice s166.a s166.len s166.cap) ∧ ∃ a167 : Addr, up = some a167 ∧ ¬ W162 ((a167.add 1).add 1).block ∧ ∃ s168 : Sl, w161.cell? ((a167.add 1).add 1) = some (.slice s168.a s168.len s168.cap) ∧ ∃ a169 : Addr, s168.a = some a169 ∧ ((0 : Int) ≤ n31 ∧ n31 < ((s168.len : Nat) : Int)) ∧ ¬ W162 (a169.add (Int.toNat n31 * 1)).block ∧ ∃ s170 : Sl, w161.cell? (a169.add (Int.toNat n31 * 1)) = some (.slice s170.a s170.len s170.cap) ∧ ¬ W162 (⟨w63.heap.size, 0, none⟩ : Addr).block ∧ ∃ b171 : Bool, w161.cell? ⟨w63.heap.size, 0, none⟩ = some (.bool b171) ∧ ∃ s172 : Sl, w161.cell? (Addr.add ⟨w63.heap.size, 0, none⟩ 1) = some (.slice s172.a s172.len s172.cap) ∧ ∃ s173 : Sl, w161.cell? (Addr.add ⟨w63.heap.size, 0, none⟩ 2) = some (.slice s173.a s173.len s173.cap) ∧ ∃ s174 : Sl, w161.cell? (Addr.add ⟨w63.heap.size, 0, none⟩ 3) = some (.slice s174.a s174.len s174.cap) ∧ ( Calls Tryz.prog F.node_Merge #[.agg #[.bool b163, .slice s164.a s164.len s164.cap, .slice s165.a s165.len s165.cap, .slice s166.a s166.len s166.cap], .slice s170.a s170.len s170.cap, .agg #[.bool b171, .slice s172.a s172.len s172.cap, .slice s173.a s173.len s173.cap, .slice s174.a s174.len s174.cap]] w161 fun e176 w175 => ∃ b177 : Bool, ∃ s178 : Sl, ∃ s179 : Sl, ∃ s180 : Sl, ∃ b181 : Bool, e176 = .returned ( .tuple #[.agg #[.bool b177, .slice s178.a s178.len s178.cap, .slice s179.a s179.len s179.cap, .slice s180.a s180.len s180.cap], .bool b181]) ∧ Chg W162 w161 w175 ∧ Nx (w175.alloc (.cells #[.bool false, .slice none 0 0, .slice none 0 0, .slice none 0 0] Ty.api_Node)) fun w182 => Chg W162 w175 w182 ∧ StoreOk w182 ⟨w175.heap.size, 0, none⟩ [.bool b177, .slice s178.a s178.len s178.cap, .slice s179.a s179.len s179.cap, .slice s180.a s180.len s180.cap] ∧ (4 : Nat) = 4 ∧ Nx ( setCells w182 ⟨w175.heap.size, 0, none⟩ 0 [.bool b177, .slice s178.a s178.len s178.cap, .slice s179.a s179.len s179.cap, .slice s180.a s180.len s180.cap]) fun w183 => ((!b181) = true → Q (.tuple #[.slice none 0 0, .int .i64 0, .int .i64 0, .int .i64 4]) w183) ∧ ( (!b181) = false → ∃ b184 : Bool, w183.cell? ⟨w175.heap.size, 0, none⟩ = some (.bool b184) ∧ ∃ s185 : Sl, w183.cell? (Addr.add ⟨w175.heap.size, 0, none⟩ 1) = some (.slice s185.a s185.len s185.cap) ∧ ∃ s186 : Sl, w183.cell? (Addr.add ⟨w175.heap.size, 0, none⟩ 2) = some (.slice s186.a s186.len s186.cap) ∧ ∃ s187 : Sl, w183.cell? (Addr.add ⟨w175.heap.size, 0, none⟩ 3) = some (.slice s187.a s187.len s187.cap) ∧ Calls Tryz.prog F.tree_change_fits #[.pointer c, .agg #[.bool b184, .slice s185.a s185.len s185.cap, .slice s186.a s186.len s186.cap, .slice s187.a s187.len s187.cap]] w183 fun e189 w188 => ∃ s190 : Sl, ∃ n191 : Int, e189 = .returned (.tuple #[.slice s190.a s190.len s190.cap, .int .i64 n191]) ∧ Q ( .tuple #[.slice s190.a s190.len s190.cap, .int .i64 n31, .int .i64 (IntKind.wrap .i64 (n31 + 2)), .int .i64 n191]) w188) ) ∧ ( Nx (w161.alloc (.cells #[.bool false, .slice none 0 0, .slice none 0 0, .slice none 0 0] Ty.api_Node)) fun w192 => Chg W162 w161 w192 ∧ Calls Tryz.prog F.node_Merge #[.agg #[.bool b163, .slice s164.a s164.len s164.cap, .slice s165.a s165.len s165.cap, .slice s166.a s166.len s166.cap], .slice s170.a s170.len s170.cap, .agg #[.bool b171, .slice s172.a s172.len s172.cap, .slice s173.a s173.len s173.cap, .slice s174.a s174.len s174.cap]] w192 fun e194 w193 => ∃ b195 : Bool, ∃ s196 : Sl, ∃ s197 : Sl, ∃ s198 : Sl, ∃ b199 : Bool, e194 = .returned ( .tuple #[.agg #[.bool b195, .slice s196.a s196.len s196.cap, .slice s197.a s197.len s197.cap, .slice s198.a s198.len s198.cap], .bool b199]) ∧ Chg W162 w192 w193 ∧ StoreOk w193 ⟨w161.heap.size, 0, none⟩ [.bool b195, .slice s196.a s196.len s196.cap, .slice s197.a s197.len s197.cap, .slice s198.a s198.len s198.cap] ∧ (4 : Nat) = 4 ∧ Nx ( setCells w193 ⟨w161.heap.size, 0, none⟩ 0 [.bool b195, .slice s196.a s196.len s196.cap, .slice s197.a s197.len s197.cap, .slice s198.a s198.len s198.cap]) fun w200 => ((!b199) = true → Q (.tuple #[.slice none 0 0, .int .i64 0, .int .i64 0, .int .i64 4]) w200) ∧ ( (!b199) = false → ∃ b201 : Bool, w200.cell? ⟨w161.heap.size, 0, none⟩ = some (.bool b201) ∧ ∃ s202 : Sl, w200.cell? (Addr.add ⟨w161.heap.size, 0, none⟩ 1) = some (.slice s202.a s202.len s202.cap) ∧ ∃ s203 : Sl, w200.cell? (Addr.add ⟨w161.heap.size, 0, none⟩ 2) = some (.slice s203.a s203.len s203.cap) ∧ ∃ s204 : Sl, w200.cell? (Addr.add ⟨w161.heap.size, 0, none⟩ 3) = some (.slice s204.a s204.len s204.cap) ∧ Calls Tryz.prog F.tree_change_fits #[.pointer c, .agg #[.bool b201, .slice s202.a s202.len s202.cap, .slice s203.a s203.len s203.cap, .slice s204.a s204.len s204.cap]] w200 fun e206 w205 => ∃ s207 : Sl, ∃ n208 : Int, e206 = .returned (.tuple #[.slice s207.a s207.len s207.cap, .int .i64 n208]) ∧ Q ( .tuple #[.slice s207.a s207.len s207.cap, .int .i64 n31, .int .i64 (IntKind.wrap .i64 (n31 + 2)), .int .i64 n208]) w205) ) ) ) )
theorem lTail1 {w : World} {T : Tr} {c : Cg} {nb ob : Nat} {A : Addr} {u : Sp} {n o : Nd} {K V D Ko Vo Do : Sl} {fr other no : Nat} {Q : Value → World → Prop} (h : CgAt w T c) (hnb : Var w nb (ndL n K V D) Ty.api_Node) (hob : Var w ob (ndL o Ko Vo Do) Ty.api_Node)
   (hnG : ¬ T.M nb) (hoG : ¬ T.M ob) (hn : NdAt (fun q => ¬ T.M q) w n K V D) (ho : NdAt (fun q => ¬ T.M q) w o Ko Vo Do) (hu : UpAt (fun q => ¬ T.M q) w A u)
   (hld : T.C.D.ld ≤ 900000090) (hroom : 2 ≤ roomT T) (hml : c.made.length ≤ 900) (hll : c.left.length ≤ 900) (sn : SoundN n) (so : SoundN o) (zn : nsize n ≤ 400) (zo : nsize o ≤ 400) (hl : o.leaf = n.leaf) (hfr : fr < u.n.keys.length) (hkey : keyOk u.n.keys[fr]) (m : Nd) (hm : m = if u.kid < other then mergeN n u.n.keys[fr] o else mergeN o u.n.keys[fr] n) (hfit : FitOk m) (hf2 : fr ≤ 1000)
   (hQ : ∀ (s : Sl) (e : Int) (T1 : Tr) (c1 : Cg) (w1 w' : World), CTU T T1 c c1 [] [no] w w1 0 → FitsR T1 c1 m w1 (.tuple #[.slice s.a s.len s.cap, .int .i64 e]) w' → Q (.tuple #[.slice s.a s.len s.cap, .int .i64 (fr : Nat), .int .i64 ((fr + 2 : Nat) : Int), .int .i64 e]) w') :
   LTail1 nb ob (some ⟨c.cb, 0, none⟩) (some A) (fr : Nat) (other : Nat) (no : Nat) 0 w Q := by
 unfold LTail1
 refine ⟨fun hb => (by cases hb), fun _ => ⟨_, rfl, _, h.cells.2.2, ?_⟩⟩
 obtain ⟨s', w60, g1, g2, g3, g4, g5⟩ := cg_left h no (by omega)
 refine nx ⟨s', w60, g1, _, rfl, by rw [add_mk]; exact g3, by rw [add_mk]; exact g4, nx ?_⟩
 rw [add_mk]
 obtain ⟨w62, hw62⟩ : ∃ w62, w62 = w60.setCell ⟨c.cb, 0 + 2, none⟩ (.slice s'.a s'.len s'.cap) := ⟨_, rfl⟩
 rw [← hw62]
 obtain ⟨h62, hto62⟩ := g5 w62 hw62
 have hcu := CTU.leave (c := c) (c' := { c with lf := s', left := c.left ++ [no] }) (no := no) hto62 rfl (fun q hq => .inl hq) rfl rfl rfl
 obtain ⟨T1, hT1⟩ : ∃ T1, T1 = T.wO T.E fun q => T.G q ∨ ownB s' q := ⟨_, rfl⟩
 obtain ⟨c1, hc1⟩ : ∃ c1 : Cg, c1 = { c with lf := s', left := c.left ++ [no] } := ⟨_, rfl⟩
 have hcb : c1.cb = c.cb := by rw [hc1]
 have hmd : c1.made = c.made := by rw [hc1]
 have hld1 : T1.C.D.ld ≤ 900000090 := by rw [hT1]; exact hld
 have hrm1 : 2 ≤ roomT T1 := by rw [hT1]; exact hroom
 rw [← hT1, ← hc1] at h62 hcu
 rw [← hT1] at hto62
 have hxd : Ext w62 w62.drew := ext_drew _
 have h63 := h62.ext hxd
 have hcu63 : CTU T T1 c c1 [] [no] w w62.drew 0 := hcu.trans (CTU.ext T1 c1 hxd)
 obtain ⟨w63, hw63⟩ : ∃ w63, w63 = w62.drew := ⟨_, rfl⟩
 rw [← hw63] at hxd h63 hcu63 ⊢
 have hto := hcu63.to
 have hN : ∀ q, ¬ T.M q → ¬ T.N q := fun q h1 h2 => h1 (Tr.NM h2)
 have hnb63 := hnb.chg hto.chg (hN _ hnG)
 have hob63 := hob.chg hto.chg (hN _ hoG)
 have nd63 : ∀ {m : Nd} {K V D : Sl}, NdAt (fun q => ¬ T.M q) w m K V D → NdAt (fun q => ¬ T.M q) w63 m K V D := fun hm => NdAt.chg hm hto.chg fun q hq => hN q hq
 have hn63 := nd63 hn
 have ho63 := nd63 ho
 have hu63 := hu.to hto
 obtain ⟨n0, n1, n2, n3⟩ := ndCells hnb63
 obtain ⟨o0, o1, o2, o3⟩ := ndCells hob63
 have hnl := hnb63.lt
 have hol := hob63.lt
 have fin : ∀ (wT : World) (av bv : Nat), Ext w63 wT → Var wT av (ndL o Ko Vo Do) Ty.api_Node → Var wT bv (ndL n K V D) Ty.api_Node → w63.heap.size ≤ av → w63.heap.size ≤ bv → av ≠ bv → LTail2 nb ob av bv (some ⟨c.cb, 0, none⟩) (some A) (fr : Nat) (other : Nat) wT Q := by
   intro wT av bv hx ha hb h1 h2 h3
   have := lTail2 h63 hx hnb63 hob63 ha hb h1 h2 h3 hn63 ho63 hu63 hld1 hrm1 (by rw [hmd]; exact hml) sn so zn zo hl hfr hkey m hm hfit hf2 (Q := Q) fun s e w' hf => hQ s e T1 c1 w63 w' hcu63 hf
   rw [hcb] at this
   exact this
 refine nx ⟨fun q => w63.heap.size ≤ q, (show ¬ w63.heap.size ≤ ob by omega), _, o0, Ko, o1, Vo, o2, Do, o3, (show ¬ w63.heap.size ≤ nb by omega), _, n0, K, n1, V, n2, D, n3, ?_, ?_⟩
 · refine nxVar (vs := [.bool false, .slice none 0 0, .slice none 0 0, .slice none 0 0]) rfl fun w73 ha73 hx73 hs73 => ⟨Chg.of_ext hx73, nxVar (vs := [.bool false, .slice none 0 0, .slice none 0 0, .slice none 0 0]) rfl fun w74 hb74 hx74 hs74 => ?_⟩
   have ha74 := ha73.ext hx74
   refine ⟨Chg.of_ext hx74, ha74.storeOk rfl plain4, rfl, nxPut ha74 (us := ndL o Ko Vo Do) rfl rfl fun w75 ha75 hc75 hs75 => ?_⟩
   have hb75 := hb74.chg hc75 (by omega)
   have hx75 : Ext w63 w75 := Ext.of_chg (hx73.trans hx74) hc75 (Nat.le_refl _)
   refine ⟨hc75.mono fun q _ e => by omega, hb75.storeOk rfl plain4, rfl, nxPut hb75 (us := ndL n K V D) rfl rfl fun w76 hb76 hc76 hs76 => ?_⟩
   exact fin w76 w63.heap.size w73.heap.size (Ext.of_chg hx75 hc76 (by omega)) (ha75.chg hc76 (by omega)) hb76 (Nat.le_refl _) (by omega) (by omega)
 · refine nxVar (vs := [.bool false, .slice none 0 0, .slice none 0 0, .slice none 0 0]) rfl fun w73 hb73 hx73 hs73 => ⟨Chg.of_ext hx73, nxVar (vs := [.bool false, .slice none 0 0, .slice none 0 0, .slice none 0 0]) rfl fun w74 ha74 hx74 hs74 => ?_⟩
   have hb74 := hb73.ext hx74
   refine ⟨Chg.of_ext hx74, ha74.storeOk rfl plain4, rfl, nxPut ha74 (us := ndL o Ko Vo Do) rfl rfl fun w75 ha75 hc75 hs75 => ?_⟩
   have hb75 := hb74.chg hc75 (by omega)
   have hx75 : Ext w63 w75 := Ext.of_chg (hx73.trans hx74) hc75 (by omega)
   refine ⟨hc75.mono fun q _ e => by omega, hb75.storeOk rfl plain4, rfl, nxPut hb75 (us := ndL n K V D) rfl rfl fun w76 hb76 hc76 hs76 => ?_⟩
   exact fin w76 w73.heap.size w63.heap.size (Ext.of_chg hx75 hc76 (Nat.le_refl _)) (ha75.chg hc76 (by omega)) hb76 (by omega) (Nat.le_refl _) (by omega)
theorem TTo.read {w w' : World} {T : Tr} {E : Nat → Prop} {C' : Ch} {P : Nat → Option Nd} {k : Nat} (h : TTo (T.wO E fun _ => False) ((T.wO E fun _ => False).wC C' P) w w' k) (hE : ∀ q, T.E q ∨ T.G q → E q) (hE2 : ∀ q, E q → T.E q ∨ T.G q ∨ w.heap.size ≤ q) : TTo T (T.wC C' P) w w' k := by
 refine ⟨h.tb, h.sb, h.n, h.g, h.s1, h.s2, h.c, h.d, h.lasts, h.gen, h.ld, h.calm, h.chg.mono fun q _ hq => ?_, fun q hq => ?_, fun q hq => ?_⟩
 · rcases hq with hq | hq | hq | hq
   · exact .inl hq
   · exact .inr (.inl hq)
   · exact .inr (.inr (.inl hq))
   · exact hq.elim
 · have h1 : ((T.wO E fun _ => False).wC C' P).M q := by
     rcases hq with hq | hq | hq | hq
     · exact .inl hq
     · exact .inr (.inl hq)
     · exact .inr (.inr (.inl hq))
     · exact .inr (.inr (.inr (.inl (hE q hq))))
   rcases h.fp q h1 with h2 | h2
   · rcases h2 with hq | hq | hq | hq | hq
     · exact .inl (.inl hq)
     · exact .inl (.inr (.inl hq))
     · exact .inl (.inr (.inr (.inl hq)))
     · rcases hE2 q hq with h3 | h3 | h3
       · exact .inl (.inr (.inr (.inr (.inl h3))))
       · exact .inl (.inr (.inr (.inr (.inr h3))))
       · exact .inr h3
     · exact hq.elim
   · exact .inr h2
 · rcases hq with hq | hq | hq | hq
   · rcases h.fn q (.inl hq) with h2 | h2
     · rcases h2 with h2 | h2 | h2 | h2
       · exact .inl (.inl h2)
       · exact .inl (.inr (.inl h2))
       · exact .inl (.inr (.inr (.inl h2)))
       · exact h2.elim
     · exact .inr h2
   · exact .inl (.inr (.inl hq))
   · exact .inl (.inr (.inr (.inl hq)))
   · exact .inl (.inr (.inr (.inr hq)))
end Go.Proofs.YtplieiecebljmaaGreat
namespace Go.Proofs.YtplieiecebljmaaGreat
open Go Gx
theorem CTU.cache {T : Tr} {c : Cg} {C' : Ch} {w w' : World} {k : Nat} (h : TTo T (T.wC C' T.P) w w' k) (hv : ∀ j, C'.view j = T.C.view j) : CTU T (T.wC C' T.P) c c [] [] w w' k :=
 ⟨h, rfl, fun _ h => h, rfl, rfl, rfl, by simp, by simp, List.nodup_nil, fun _ h => (by cases h), fun no => by simp [Tr.wC], fun no _ => ⟨rfl, hv no⟩, by simp [roomT, Tr.wC]⟩
theorem read_in {w w1 : World} {T : Tr} {c : Cg} {Z : Nat → Prop} {no : Nat} {o : Nd} (h : CgAt w T c) (hx : Ext w w1) (hZ : ∀ q, Z q → w.heap.size ≤ q ∧ q < w1.heap.size) (hld : T.C.D.ld ≤ 999999999) (hP : T.P no = some o) :
   Ret Tryz.prog F.tree_Tree_read #[.pointer (some ⟨T.tb, 0, none⟩), .int .i64 (no : Nat), .bool o.leaf] w1 (fun v w' => ∃ C' : Ch, (∀ j, C'.view j = T.C.view j) ∧ Chg (fun q => T.N q ∧ ¬ T.G q) w1 w' ∧ (∀ q, (T.wC C' T.P).M q → T.M q ∨ w1.heap.size ≤ q) ∧
     (∀ w'', Chg Z w' w'' → CgAt w'' (T.wC C' T.P) c ∧ CTU T (T.wC C' T.P) c c [] [] w w'' 2) ∧
     ((∃ (K V D : Sl), v = .tuple #[ndV o K V D, .int .i64 0] ∧ NdAt (fun q => w1.heap.size ≤ q ∧ ¬ (T.wC C' T.P).M q) w' o K V D) ∨ (v = .tuple #[ndV nd0 nil3 nil3 nil3, .int .i64 3] ∧ ¬ T.C.D.calm 2))) := by
 obtain ⟨hno, hpg⟩ := h.t.pn no o hP
 obtain ⟨E1, hE1⟩ : ∃ E1, E1 = fun q => T.E q ∨ T.G q ∨ Z q := ⟨_, rfl⟩
 have hEi : ∀ q, T.E q ∨ T.G q ∨ Z q → E1 q := fun q hq => by rw [hE1]; exact hq
 have hEo : ∀ q, E1 q → T.E q ∨ T.G q ∨ Z q := fun q hq => by rw [hE1] at hq; exact hq
 have hr : TrAt w1 (T.wO E1 fun _ => False) := h.t.grow (W := fun _ => False) hx (fun _ h => h.elim) (fun q hq => (hEo q hq).imp id (Or.imp id (hZ q))) (fun _ h => h.elim) fun _ _ h => h
 have hMN : ∀ q, (T.wO E1 fun _ => False).N q → T.N q ∧ ¬ T.G q := fun q hq => ⟨by
   rcases hq with hq | hq | hq | hq
   · exact .inl hq
   · exact .inr (.inl hq)
   · exact .inr (.inr (.inl hq))
   · exact hq.elim, fun hg => hr.eN (hEi q (.inr (.inl hg))) hq⟩
 refine (tree_read hr hld hno o.leaf).mono ?_
 rintro v w' ⟨C', hT, ht, hv, hres⟩
 have hxs := hx.size
 have hz := ht.chg.size
 have ht0 := (TTo.ext (T.wO E1 fun _ => False) hx).trans ht
 rw [Nat.zero_add] at ht0
 have hts : TTo T (T.wC C' T.P) w w' 2 := TTo.read (E := E1) ht0 (fun q hq => hEi q (hq.imp id .inl)) fun q hq => (hEo q hq).imp id (Or.imp id fun h => (hZ q h).1)
 have hc1 : Chg (fun q => T.N q ∧ ¬ T.G q) w1 w' := ht.chg.mono fun q _ hq => hMN q hq
 refine ⟨C', hv, hc1, fun q hq => ?_, fun w'' hc => ?_, ?_⟩
 · rcases hq with hq | hq
   · exact (ht.fn q (.inl hq)).imp (fun h => Tr.NM (hMN q h).1) id
   · exact .inl (.inr hq)
 · have hT2 : TrAt w'' (T.wC C' T.P) := hT.grow (E := T.E) (G := T.G) hc (fun q hq _ => .inl (hEi q (.inr (.inr hq)))) (fun q hq => .inl (hEi q (.inl hq))) (fun q hq => .inl (hEi q (.inr (.inl hq)))) fun q hq => (h.t.de q hq).2.2
   refine ⟨(h.ext hx).of (W := fun q => (T.N q ∧ ¬ T.G q) ∨ Z q) hT2 ((hc1.mono fun q _ hq => .inl hq).trans (hc.mono fun q _ hq => .inr hq)) (fun q hg hq => ?_) rfl fun _ h => h, CTU.cache ?_ hv⟩
   · rcases hq with hq | hq
     · exact hq.2 hg
     · have := h.t.lt (q := q) (.inr (.inr (.inr (.inr hg))))
       have := (hZ q hq).1
       omega
   · exact hts.step (E := T.E) (G := T.G) hc (fun q hq hl => by have := (hZ q hq).1; omega) (fun q hq => .inl hq) fun q hq => .inl hq
 · rcases hres with ⟨n2, K, V, D, rfl, hpg2, hnd⟩ | ⟨e, rfl, hre, hne⟩
   · obtain rfl := pgNd.uniq hpg hpg2
     refine .inl ⟨K, V, D, rfl, hnd.weak fun q hq hb => ⟨hb.1, fun hm => hb.2 ?_⟩⟩
     rcases hm with hm | hm | hm | hm | hm
     · exact .inl hm
     · exact .inr (.inl hm)
     · exact .inr (.inr (.inl hm))
     · exact .inr (.inr (.inr (.inl (hEi q (.inl hm)))))
     · exact .inr (.inr (.inr (.inl (hEi q (.inr (.inl hm))))))
   · refine .inr ?_
     rcases hre with ⟨rfl, h1⟩ | h1 | ⟨_, _, h1⟩
     · exact ⟨rfl, h1⟩
     · obtain ⟨p, g1, _⟩ := hpg
       have h1 : pgDec (no : Int) (T.C.view no) = .error e := h1
       rw [g1] at h1; cases h1
     · exact absurd hpg (h1 o)
def otherIx (u : Sp) : Nat := if u.kid = 0 then 1 else u.kid - 1
def mergedN (u : Sp) (n o : Nd) : Nd := if u.kid < otherIx u then mergeN n (u.n.keys.getD (u.kid - 1) []) o else mergeN o (u.n.keys.getD (u.kid - 1) []) n
def LaysR (T : Tr) (c : Cg) (n : Nd) (u : Sp) (w : World) (v : Value) (w' : World) : Prop :=
 (80 ≤ nsize n ∧ ∃ (s : Sl) (e : Int), v = .tuple #[.slice s.a s.len s.cap, .int .i64 (u.kid : Nat), .int .i64 ((u.kid + 1 : Nat) : Int), .int .i64 e] ∧ FitsR T c n w (.tuple #[.slice s.a s.len s.cap, .int .i64 e]) w') ∨
 (nsize n < 80 ∧ ∃ (T1 : Tr) (c1 : Cg), v = .tuple #[.slice none 0 0, .int .i64 0, .int .i64 0, .int .i64 3] ∧ CgAt w' T1 c1 ∧ CTU T T1 c c1 [] [] w w' 2 ∧ ¬ T.C.D.calm 2) ∨
 (nsize n < 80 ∧ ∃ (o : Nd) (no : Nat) (T1 : Tr) (c1 : Cg) (w1 : World) (s : Sl) (e : Int), u.n.kids[otherIx u]? = some no ∧ T.P no = some o ∧ CTU T T1 c c1 [] [no] w w1 2 ∧
   v = .tuple #[.slice s.a s.len s.cap, .int .i64 ((u.kid - 1 : Nat) : Int), .int .i64 ((u.kid - 1 + 2 : Nat) : Int), .int .i64 e] ∧ FitsR T1 c1 (mergedN u n o) w1 (.tuple #[.slice s.a s.len s.cap, .int .i64 e]) w')
end Go.Proofs.YtplieiecebljmaaGreat
namespace Go.Proofs.YtplieiecebljmaaGreat
open Go Gx
theorem lays_root {B : Nat → Prop} {w : World} {T : Tr} {c : Cg} {n : Nd} {K V D : Sl} (h : CgAt w T c) (hn : NdAt B w n K V D) (hfit : FitOk n) (hld : T.C.D.ld ≤ 900000080) (hroom : 2 ≤ roomT T) (hml : c.made.length ≤ 900) :
   Ret Tryz.prog F.tree_change_lays #[.pointer (some ⟨c.cb, 0, none⟩), ndV n K V D, .pointer none] w (fun v w' => ∃ (s : Sl) (e : Int), v = .tuple #[.slice s.a s.len s.cap, .int .i64 0, .int .i64 0, .int .i64 e] ∧ FitsR T c n w (.tuple #[.slice s.a s.len s.cap, .int .i64 e]) w') := by
 refine W.tree_change_lays_ok (some ⟨c.cb, 0, none⟩) n.leaf K V D none w _ ?_
 (delta W.tree_change_lays Br r3 nA r1 c2 r2 wI c4 bd c9 z1 T19 st T2 T27 c6 T20; dsimp only)
 refine nxVar (vs := ndL n K V D) rfl fun w1 hp1 hx1 hs1 => ?_
 refine Jn1 (fun b w' => b = true ∧ w1 = w') (fun q hq => ⟨fun _ => hq _ _ ⟨rfl, rfl⟩, fun h => (by cases h)⟩) ?_
 rintro _ _ ⟨rfl, rfl⟩
 refine ⟨fun _ => Jn2 (fun a b w' => a = 0 ∧ b = 0 ∧ w1 = w') (fun q hq => ⟨fun h => (by cases h), fun _ => hq _ _ _ ⟨rfl, rfl, rfl⟩⟩) ?_, fun h => (by cases h)⟩
 rintro _ _ _ ⟨rfl, rfl, rfl⟩
 obtain ⟨c0, c1, c2, c3⟩ := ndCells hp1
 refine ⟨_, c0, K, c1, V, c2, D, c3, (change_fits (h.ext hx1) (by omega) hroom hml (hn.ext hx1) hfit.1 hfit.2.1 hfit.2.2).use ?_⟩
 intro v w' hv
 obtain ⟨s, e, rfl⟩ := hv.out
 exact ⟨s, e, rfl, s, e, rfl, hv.base hx1⟩
theorem lays_up {w : World} {T : Tr} {c : Cg} {n : Nd} {K V D : Sl} {A : Addr} {u : Sp} (h : CgAt w T c) (hn : NdAt (fun q => ¬ T.M q) w n K V D) (hu : UpAt (fun q => ¬ T.M q) w A u) (sn : SoundN n) (zn : nsize n ≤ 400) (hA : 80 ≤ nsize n → FitOk n)
   (hB : nsize n < 80 → ∃ (o : Nd) (no : Nat), u.n.kids[otherIx u]? = some no ∧ T.P no = some o ∧ o.leaf = n.leaf ∧ u.kid - 1 < u.n.keys.length ∧ keyOk (u.n.keys.getD (u.kid - 1) []) ∧ FitOk (mergedN u n o)) (hki : u.kid ≤ 900)
   (hld : T.C.D.ld ≤ 900000080) (hroom : 2 ≤ roomT T) (hml : c.made.length ≤ 900) (hll : c.left.length ≤ 900) :
   Ret Tryz.prog F.tree_change_lays #[.pointer (some ⟨c.cb, 0, none⟩), ndV n K V D, .pointer (some A)] w (LaysR T c n u w) := by
 have hfew := sn.few (by omega)
 refine W.tree_change_lays_ok (some ⟨c.cb, 0, none⟩) n.leaf K V D (some A) w _ ?_
 (delta W.tree_change_lays Br r3 nA r1 c2 r2 wI c4 bd c9 z1 T19 st T2 T27 c6 T20; dsimp only)
 refine nxVar (vs := ndL n K V D) rfl fun w1 hp1 hx1 hs1 => ?_
 obtain ⟨nb, hnb⟩ : ∃ nb, nb = w.heap.size := ⟨_, rfl⟩
 rw [← hnb] at hp1 ⊢
 refine Jn1 (fun b w' => b = decide (80 ≤ nsize n) ∧ Ext w1 w') (fun q hq => ⟨fun h => (by cases h), fun _ => ?_⟩) ?_
 · obtain ⟨c0, c1, c2, c3⟩ := ndCells hp1
   refine ⟨_, c0, K, c1, V, c2, D, c3, (node_Size (hn.ext hx1) sn (by omega)).use ?_⟩
   rintro _ w7 ⟨rfl, hx7⟩
   refine ⟨_, rfl, hq _ _ ⟨?_, hx7⟩⟩
   rw [Bool.eq_iff_iff, decide_eq_true_eq, decide_eq_true_eq]
   omega
 rintro _ w11 ⟨rfl, hx11⟩
 have hX11 := hx1.trans hx11
 refine ⟨fun hb => ?_, fun hb => ?_⟩
 · have hb := of_decide_eq_true hb
   have hfit := hA hb
   refine Jn2 (fun a b w' => a = (u.kid : Nat) ∧ b = ((u.kid + 1 : Nat) : Int) ∧ Ext w11 w') (fun q hq => ⟨fun _ => ?_, fun h => (by cases h)⟩) ?_
   · have hxd : Ext w11 w11.drew := ext_drew _
     have hud := hu.ext (hX11.trans hxd)
     refine nx ⟨A, rfl, id, _, hud.c5, A, rfl, id, _, hud.c5, hq _ _ _ ⟨rfl, ?_, hxd⟩⟩
     rw [wrapi (by omega) (by omega)]; rfl
   rintro _ _ w20 ⟨rfl, rfl, hx20⟩
   have hX := hX11.trans hx20
   obtain ⟨c0, c1, c2, c3⟩ := ndCells (hp1.ext (hx11.trans hx20))
   refine ⟨_, c0, K, c1, V, c2, D, c3, (change_fits (h.ext hX) (by omega) hroom hml (hn.ext hX) hfit.1 hfit.2.1 hfit.2.2).use ?_⟩
   intro v w' hv
   obtain ⟨s, e, rfl⟩ := hv.out
   exact ⟨s, e, rfl, .inl ⟨hb, s, e, rfl, hv.base hX⟩⟩
 · have hb : ¬ 80 ≤ nsize n := of_decide_eq_false hb
   obtain ⟨o, no, ho1, hP, hol, hk1, hk2, hfit⟩ := hB (by omega)
   obtain ⟨hno, hpg⟩ := h.t.pn no o hP
   obtain ⟨_, so, zo⟩ := hpg.is
   have hu11 := hu.ext hX11
   refine ⟨A, rfl, _, hu11.c5, ((u.kid - 1 : Nat) : Int), w11, ?_, ?_⟩
   · rw [run_max_int2]
     congr 2
     by_cases h0 : u.kid = 0
     · rw [h0]; rfl
     · rw [wrapi (by omega) (by omega), if_neg (by omega)]; omega
   refine Jn1 (fun a w' => a = (otherIx u : Nat) ∧ w11 = w') (fun q hq => ⟨A, rfl, _, hu11.c5, fun h0 => hq _ _ ⟨?_, rfl⟩, fun h0 => hq _ _ ⟨?_, rfl⟩⟩) ?_
   · have : u.kid = 0 := by simpa using h0
     unfold otherIx; rw [if_pos this]; rfl
   · have : u.kid ≠ 0 := by simpa using h0
     unfold otherIx; rw [if_neg this]
   rintro _ _ ⟨rfl, rfl⟩
   have hoi : otherIx u < u.n.kids.length := (List.getElem?_eq_some_iff.1 ho1).1
   obtain ⟨Ad, hAd, hbd, hcd⟩ := InR.at hu11.nd.kids hoi
   have hno' : u.n.kids[otherIx u] = no := (List.getElem?_eq_some_iff.1 ho1).2
   rw [hno'] at hcd
   refine ⟨A, rfl, u.D, hu11.c4, Ad, hAd, hbd, _, hcd, nx ?_⟩
   have hxd : Ext w11 w11.drew := ext_drew _
   obtain ⟨w42, hw42⟩ : ∃ w42, w42 = w11.drew := ⟨_, rfl⟩
   rw [← hw42] at hxd ⊢
   have hX := hX11.trans hxd
   have h42 := h.ext hX
   have hz42 := hX.size
   have hz1 := (hx11.trans hxd).size
   have hp42 := hp1.ext (hx11.trans hxd)
   have hMl : ∀ q, T.M q → q < w.heap.size := fun q hq => h.t.lt hq
   have hkey : u.n.keys.getD (u.kid - 1) [] = u.n.keys[u.kid - 1] := by rw [List.getD_eq_getElem?_getD, List.getElem?_eq_getElem hk1]; rfl
   -- behind the read
   have fin : ∀ (C' : Ch) (ob : Nat) (Ko Vo Do : Sl) (w55 : World), CgAt w55 (T.wC C' T.P) c → CTU T (T.wC C' T.P) c c [] [] w42 w55 2 → Var w55 nb (ndL n K V D) Ty.api_Node → Var w55 ob (ndL o Ko Vo Do) Ty.api_Node → w42.heap.size ≤ ob → ¬ (T.wC C' T.P).M ob → NdAt (fun q => ¬ (T.wC C' T.P).M q) w55 o Ko Vo Do →
       LTail1 nb ob (some ⟨c.cb, 0, none⟩) (some A) ((u.kid - 1 : Nat) : Int) (otherIx u : Nat) (no : Nat) 0 w55 (fun v w' => LaysR T c n u w v w') := by
     intro C' ob Ko Vo Do w55 h55 hcu42 hnv hov hob hobM hno55
     have hcu := ((CTU.ext T c hX).trans hcu42).mono (j := 2) (by omega)
     have hto := hcu.to
     have hnM : ¬ (T.wC C' T.P).M nb := fun hm => by
       rcases hcu42.to.fp nb hm with h1 | h1
       · have := hMl _ h1; omega
       · omega
     have hn55 : NdAt (fun q => ¬ (T.wC C' T.P).M q) w55 n K V D := (hto.nd (lo := 0) (hn.weak fun q _ hb => ⟨Nat.zero_le _, hb⟩)).weak fun q _ hb => hb.2
     have hld' : (T.wC C' T.P).C.D.ld ≤ 900000090 := Nat.le_trans hto.ld (by omega)
     refine lTail1 h55 hnv hov hnM hobM hn55 hno55 (hu.to hto) hld' hroom hml hll sn so zn (by omega) hol hk1 (by rw [← hkey]; exact hk2) (mergedN u n o) (by unfold mergedN; rw [hkey]) hfit (by omega) ?_
     intro s e T1 c1 w1' w' hcu1 hf
     exact .inr (.inr ⟨by omega, o, no, T1, c1, w1', s, e, ho1, hP, (hcu.trans hcu1).mono (by omega), rfl, hf⟩)
   have hNC : ∀ q, T.N q → q < w.heap.size := fun q hq => hMl q (Tr.NM hq)
   have err : ∀ (C' : Ch) (w55 : World), CgAt w55 (T.wC C' T.P) c → CTU T (T.wC C' T.P) c c [] [] w42 w55 2 → ¬ T.C.D.calm 2 → LaysR T c n u w (.tuple #[.slice none 0 0, .int .i64 0, .int .i64 0, .int .i64 3]) w55 := by
     intro C' w55 h55 hcu42 hnc
     exact .inr (.inl ⟨by omega, _, c, rfl, h55, ((CTU.ext T c hX).trans hcu42).mono (by omega), hnc⟩)
   obtain ⟨c0, c1, c2, c3⟩ := ndCells hp42
   refine ⟨fun q => T.N q ∧ ¬ T.G q, _, rfl, fun hq => hq.2 h.gc, _, h42.cells.1, (fun hq => by have := hNC _ hq.1; show False; exact absurd this (by show ¬ nb < w.heap.size; omega)), _, c0, ?_, ?_⟩
   · rw [← hol]
     refine (read_in (Z := fun _ => False) h42 (Chg.refl _ _) (fun _ h => h.elim) (by omega) hP).use ?_
     rintro _ w47 ⟨C', hv, hc47, hMM, hstep, hres⟩
     have hz47 := hc47.size
     rcases hres with ⟨Ko, Vo, Do, rfl, hno47⟩ | ⟨rfl, hnc⟩
     · refine ⟨_, Ko, Vo, Do, 0, rfl, hc47, nxVar (vs := [.bool false, .slice none 0 0, .slice none 0 0, .slice none 0 0]) rfl fun w54 hp54 hx54 hs54 => ⟨Chg.of_ext hx54, hp54.storeOk rfl plain4, rfl, nxPut hp54 (us := ndL o Ko Vo Do) rfl rfl fun w55 hp55 hc55 hs55 => ?_⟩⟩
       have hx55 : Ext w47 w55 := Ext.of_chg hx54 hc55 (Nat.le_refl _)
       obtain ⟨h47, hcu47⟩ := hstep w47 (Chg.refl _ _)
       have hp47 := hp42.chg hc47 fun hq => by have := hNC _ hq.1; omega
       refine fin C' w47.heap.size Ko Vo Do w55 (h47.ext hx55) ((hcu47.trans (CTU.ext _ _ hx55)).mono (by omega)) (hp47.ext hx55) hp55 (by omega) (fun hm => by have := h47.t.lt hm; omega) ?_
       exact (hno47.ext hx55).weak fun q _ hb => hb.2
     · refine ⟨_, nil3, nil3, nil3, 3, rfl, hc47, nxVar (vs := [.bool false, .slice none 0 0, .slice none 0 0, .slice none 0 0]) rfl fun w54 hp54 hx54 hs54 => ⟨Chg.of_ext hx54, hp54.storeOk rfl plain4, rfl, nxPut hp54 (us := ndL nd0 nil3 nil3 nil3) rfl rfl fun w55 hp55 hc55 hs55 => ⟨fun _ => ?_, fun hb => (by cases hb)⟩⟩⟩
       have hx55 : Ext w47 w55 := Ext.of_chg hx54 hc55 (Nat.le_refl _)
       obtain ⟨h47, hcu47⟩ := hstep w47 (Chg.refl _ _)
       exact err C' w55 (h47.ext hx55) ((hcu47.trans (CTU.ext _ _ hx55)).mono (by omega)) hnc
   · refine nxVar (vs := [.bool false, .slice none 0 0, .slice none 0 0, .slice none 0 0]) rfl fun w9 hp9 hx9 hs9 => ⟨Chg.of_ext hx9, ?_⟩
     rw [← hol]
     refine (read_in (Z := fun q => q = w42.heap.size) h42 hx9 (fun q e => ⟨by omega, by omega⟩) (by omega) hP).use ?_
     rintro _ w47 ⟨C', hv, hc47, hMM, hstep, hres⟩
     have hz47 := hc47.size
     have hp47 := hp9.chg hc47 fun hq => by have := hNC _ hq.1; omega
     have hn47 := (hp42.ext hx9).chg hc47 fun hq => by have := hNC _ hq.1; omega
     rcases hres with ⟨Ko, Vo, Do, rfl, hno47⟩ | ⟨rfl, hnc⟩
     · refine ⟨_, Ko, Vo, Do, 0, rfl, hp47.storeOk rfl plain4, rfl, nxPut hp47 (us := ndL o Ko Vo Do) rfl rfl fun w55 hp55 hc55 hs55 => ?_⟩
       obtain ⟨h55, hcu55⟩ := hstep w55 hc55
       refine fin C' w42.heap.size Ko Vo Do w55 h55 hcu55 (hn47.chg hc55 (by omega)) hp55 (Nat.le_refl _) (fun hm => ?_) ?_
       · rcases hMM _ hm with h1 | h1
         · have := hMl _ h1; omega
         · omega
       · refine (NdAt.chg hno47 hc55 fun q hq e => by have := hq.1; omega).weak fun q _ hb => hb.2
     · refine ⟨_, nil3, nil3, nil3, 3, rfl, hp47.storeOk rfl plain4, rfl, nxPut hp47 (us := ndL nd0 nil3 nil3 nil3) rfl rfl fun w55 hp55 hc55 hs55 => ⟨fun _ => ?_, fun hb => (by cases hb)⟩⟩
       obtain ⟨h55, hcu55⟩ := hstep w55 hc55
       exact err C' w55 h55 hcu55 hnc
end Go.Proofs.YtplieiecebljmaaGreat
namespace Go.Proofs.YtplieiecebljmaaGreat
open Go Gx
structure Gave (T T' : Tr) (l : List Nat) (w w' : World) : Prop where
 to : TTo T T' w w' 0
 E : T'.E = T.E
 G : T'.G = T.G
 root : T'.root = T.root
 height : T'.height = T.height
 f : ∀ no, T'.f no = (T.f no && !decide (no ∈ l))
 keep : ∀ no, (no ∉ l ∨ T.g no = true) → T'.P no = T.P no ∧ T'.C.view no = T.C.view no
theorem change_gives {w : World} {T : Tr} {c : Cg} {s : Sl} {l : List Nat} (h : CgAt w T c) (hs : Src 1 w s (intsV l)) (hso : ∀ q, ownB s q → T.G q) (hl : ∀ x ∈ l, T.f x = true) (hnd : l.Nodup) (hll : l.length ≤ 10000) :
   Ret Tryz.prog F.tree_change_gives #[.pointer (some ⟨c.cb, 0, none⟩), .slice s.a s.len s.cap] w (fun v w' => v = .tuple #[] ∧ ∃ T' : Tr, CgAt w' T' c ∧ Gave T T' l w w') := by
 have hsl : s.len = l.length := by have := hs.len; rw [intsV_length] at this; omega
 refine W.tree_change_gives_ok (some ⟨c.cb, 0, none⟩) s w _ ?_
 (delta W.tree_change_gives Br bd r2 c3 c2 wI; dsimp only)
 refine ⟨fun i w' => ∃ (j : Nat) (T' : Tr), i = j ∧ j ≤ l.length ∧ CgAt w' T' c ∧ Gave T T' (l.take j) w w' ∧ Src 1 w' s (intsV l), fun i _ => ((l.length : Int) - i).toNat, ⟨0, T, rfl, Nat.zero_le _, h, ⟨.refl _ _, rfl, rfl, rfl, rfl, fun no => by simp, fun _ _ => ⟨rfl, rfl⟩⟩, hs⟩, ?_⟩
 rintro _ w4 ⟨j, T1, rfl, hj, h1, hg, hs4⟩
 refine ⟨fun hlt => ?_, fun hge => ?_⟩
 · have hlt : j < l.length := by
     have : ((j : Nat) : Int) < ((s.len : Nat) : Int) := of_decide_eq_true hlt
     omega
   have hf1 : T1.f l[j] = true := by
     rw [hg.f, hl _ (List.getElem_mem hlt)]
     have : l[j] ∉ l.take j := fun hm => by
       obtain ⟨i, hi, he⟩ := List.getElem_of_mem hm
       rw [List.length_take] at hi
       rw [List.getElem_take] at he
       have := (List.getElem_inj hnd).1 he
       omega
     simp [this]
   have hlj : l[j] < T1.n := by
     rcases Nat.lt_or_ge l[j] T1.n with h2 | h2
     · exact h2
     · have := h1.t.s.pf _ h2
       rw [hf1] at this; cases this
   obtain ⟨A, hA, hb, hc⟩ := hs4.at (i := j) (v := .int .i64 ((l[j] : Nat) : Int)) (by simp [intsV, hlt])
   refine Jn0 (fun w' => ∃ T2 : Tr, CgAt w' T2 c ∧ Gave T T2 (l.take (j + 1)) w w' ∧ Src 1 w' s (intsV l)) (fun q hq => ⟨A, hA, hb, _, hc, _, rfl, _, h1.cells.1, _, rfl, _, h1.t.cells.2.1, (space_Fresh h1.t.s _).use ?_⟩) ?_
   · rintro _ _ ⟨rfl, rfl⟩
     refine ⟨_, rfl, _, rfl, _, h1.cells.1, _, rfl, _, h1.t.cells.2.1, (space_Free h1.t.s _).use ?_⟩
     rintro _ w19 ⟨rfl, hsp, hc19⟩
     have hff : freeF T1.f T1.n ((l[j] : Nat) : Int) = upd T1.f l[j] false := by
       unfold freeF
       rw [if_pos ⟨by omega, by omega⟩, Int.toNat_natCast]
     rw [hff] at hsp
     obtain ⟨ht19, hto19⟩ := h1.t.spc hsp hc19
     have h19 : CgAt w19 (T1.wF (upd T1.f l[j] false)) c := h1.of ht19 hc19 (fun q hq hf => (h1.t.dg q hq).2 hf) rfl fun _ h => h
     have hs19 : Src 1 w19 s (intsV l) := hs4.chg hc19 fun q hq hf => (h1.t.dg q (by rw [hg.G]; exact hso q hq)).2 hf
     have hdec : (decide ((0 : Int) ≤ ((l[j] : Nat) : Int)) && decide (((l[j] : Nat) : Int) < (T1.n : Nat)) && T1.f (Int.toNat ((l[j] : Nat) : Int)) && !(T1.g (Int.toNat ((l[j] : Nat) : Int)))) = !(T1.g l[j]) := by
       rw [Int.toNat_natCast, hf1, decide_eq_true (by omega), decide_eq_true (by omega)]; simp
     have hfa : ∀ no, upd T1.f l[j] false no = (T.f no && !decide (no ∈ l.take (j + 1))) := fun no => by
       rw [List.take_succ_eq_append_getElem hlt]
       unfold upd
       by_cases e : no = l[j]
       · rw [if_pos e, e, decide_eq_true (List.mem_append.2 (.inr (List.mem_singleton.2 rfl)))]
         exact (Bool.and_false _).symm
       · rw [if_neg e, hg.f]
         have e2 : decide (no ∈ l.take j ++ [l[j]]) = decide (no ∈ l.take j) := by
           rw [Bool.eq_iff_iff, decide_eq_true_eq, decide_eq_true_eq, List.mem_append, List.mem_singleton]
           exact ⟨fun h => h.resolve_right e, .inl⟩
         rw [e2]
     rw [hdec]
     refine ⟨_, rfl, fun hfr => ⟨_, rfl, _, h19.cells.1, _, rfl, _, h19.t.cells.1, (cache_Drop h19.t.ca _).use ?_⟩, fun hfr => hq _ ⟨_, h19, ⟨?_, hg.E, hg.G, hg.root, hg.height, hfa, fun no hno => ?_⟩, hs19⟩⟩
     · rintro _ w26 ⟨⟨b, rfl⟩, C', hca, hto, hv⟩
       have hgl : T.g l[j] = false := by
         have h2 : T1.g = T.g := hg.to.g
         rw [h2] at hfr
         simpa using hfr
       obtain ⟨ht26, hto26⟩ := h19.t.cto (P := fun no => if no = l[j] then none else T1.P no) hca hto (fun no nd hp => by
         by_cases e : no = l[j]
         · rw [if_pos e] at hp; cases hp
         · rw [if_neg e] at hp
           rw [hv no e]
           exact h1.t.pn no nd hp)
       have h26 := h19.of (T' := (T1.wF (upd T1.f l[j] false)).wC C' fun no => if no = l[j] then none else T1.P no) ht26 hto.chg (fun q hq => h19.t.gC hq) rfl fun _ h => h
       refine ⟨b, rfl, hq _ ⟨_, h26, ⟨?_, hg.E, hg.G, hg.root, hg.height, hfa, fun no hno => ?_⟩, ?_⟩⟩
       · exact ((hg.to.trans hto19).trans hto26).mono (by omega)
       · have hne : no ≠ l[j] := fun e => by
           rcases hno with h2 | h2
           · exact h2 (by rw [List.take_succ_eq_append_getElem hlt, e]; exact List.mem_append.2 (.inr (List.mem_singleton.2 rfl)))
           · rw [e, hgl] at h2; cases h2
         have h3 := hg.keep no (hno.imp (fun h2 h4 => h2 (by rw [List.take_succ_eq_append_getElem hlt]; exact List.mem_append.2 (.inl h4))) id)
         exact ⟨(if_neg hne).trans h3.1, (hv no hne).trans h3.2⟩
       · exact hs19.chg hto.chg fun q hq => h19.t.gC (by show T1.G q; rw [hg.G]; exact hso q hq)
     · exact (hg.to.trans hto19).mono (by omega)
     · exact hg.keep no (hno.imp (fun h2 h4 => h2 (by rw [List.take_succ_eq_append_getElem hlt]; exact List.mem_append.2 (.inl h4))) id)
   · rintro w29 ⟨T2, h2, hg2, hs2⟩
     rw [wrapi (n := (j : Int) + 1) (by omega) (by omega)]
     refine ⟨⟨j + 1, T2, by omega, by omega, h2, hg2, hs2⟩, ?_⟩
     show ((l.length : Int) - ((j : Int) + 1)).toNat < ((l.length : Int) - (j : Int)).toNat
     omega
 · have hge : j = l.length := by
     have : ¬ ((j : Nat) : Int) < ((s.len : Nat) : Int) := of_decide_eq_false hge
     omega
   subst hge
   rw [List.take_length] at hg
   exact ⟨rfl, T1, h1, hg⟩
theorem tree_last {B : Nat → Prop} {w : World} {n : Nd} {K V D : Sl} (hn : NdAt B w n K V D) (height : Nat) (hh : height ≤ 100) (hk : n.leaf = false → ∃ x, n.kids = [x] ∧ 1 ≤ height) :
   Ret Tryz.prog F.tree_last #[ndV n K V D, .int .i64 (height : Nat)] w (fun v w' => v = (if n.leaf then .tuple #[.int .i64 0, .int .i64 0, .int .i64 0] else .tuple #[.int .i64 ((n.kids.getD 0 0 : Nat) : Int), .int .i64 ((height - 1 : Nat) : Int), .int .i64 0]) ∧ Ext w w') := by
 refine W.tree_last_ok n.leaf K V D (height : Nat) w _ ?_
 (delta W.tree_last r3 nA Br r1 bd r2 wI; dsimp only)
 refine nxVar (vs := ndL n K V D) rfl fun w1 hp1 hx1 hs1 => ?_
 obtain ⟨c0, c1, c2, c3⟩ := ndCells hp1
 refine ⟨_, c0, fun hb => ⟨by rw [if_pos hb], hx1⟩, fun hb => ?_⟩
 obtain ⟨x, hx, h1⟩ := hk hb
 obtain ⟨A, hA, hb2, hc⟩ := InR.at (hn.ext hx1).kids (i := 0) (by rw [hx]; simp)
 refine ⟨D, c3, A, hA, hb2, _, hc, ?_, hx1⟩
 have e1 : ((height : Nat) : Int) - 1 = ((height - 1 : Nat) : Int) := by omega
 rw [if_neg (by rw [hb]; simp), wrapi (by omega) (by omega), e1]
 simp only [hx]
 rfl
end Go.Proofs.YtplieiecebljmaaGreat
namespace Go.Proofs.YtplieiecebljmaaGreat
open Go Gx
def TopR (T : Tr) (c : Cg) (ks : List Key) (kids : List Nat) (w : World) (v : Value) (w' : World) : Prop :=
 (∃ x, ks = [] ∧ kids = [x] ∧ v = .tuple #[.int .i64 (x : Nat), .int .i64 (T.height : Nat), .int .i64 0] ∧ CgAt w' T c ∧ Ext w w') ∨
 (∃ (k : Key) (x y no : Nat) (T' : Tr) (c' : Cg), ks = [k] ∧ kids = [x, y] ∧ CgAt w' T' c' ∧ CTU T T' c c' [no] [] w w' 1 ∧
   ((v = .tuple #[.int .i64 (no : Nat), .int .i64 ((T.height + 1 : Nat) : Int), .int .i64 0] ∧ T'.P no = some ⟨false, [k], [], [x, y]⟩) ∨ (v = .tuple #[.int .i64 (no : Nat), .int .i64 ((T.height + 1 : Nat) : Int), .int .i64 3] ∧ ¬ T.C.D.calm 1)))
theorem buildNd2 (K D : Nat) (w : World) : Sem.run Tryz.prog (Instr.build Ty.api_Node #[(1, .slice (some ⟨K, 0, none⟩) 1 1), (3, .slice (some ⟨D, 0, none⟩) 2 2)]) w = .ok (.agg #[.bool false, .slice (some ⟨K, 0, none⟩) 1 1, .slice none 0 0, .slice (some ⟨D, 0, none⟩) 2 2]) w := by kernel_rfl
theorem Var.srcAll {w : World} {b : Nat} {vs : List Value} {T : TypeId} (h : Var w b vs T) : Src 1 w ⟨some ⟨b, 0, none⟩, vs.length, vs.length⟩ vs := by
 refine ⟨by show _ = vs.length * 1; omega, (fun h => by cases h), fun a ha => ?_⟩
 cases ha
 show rdCells w ⟨b, 0, none⟩ 0 (vs.length * 1) = _
 rw [Nat.mul_one, h.rd rfl]
theorem newKeys {w : World} {t : Sl} {k : Key} (b : Nat) (hv : Var w b [.slice t.a t.len t.cap] Ty.Sl_uint8) (ht : Tx (fun _ => True) w t k) : TxR (fun _ => True) w ⟨some ⟨b, 0, none⟩, 1, 1⟩ [k] := by
 refine ⟨[t], rfl, hv.srcAll, Nat.le_refl _, fun q hq => ⟨trivial, ?_⟩, fun i h1 h2 => ?_⟩
 · obtain ⟨A, hA, rfl⟩ := hq
   cases hA
   exact hv.lt
 · have : i = 0 := by simp at h1; omega
   subst this
   exact ht
theorem newKids {w : World} {x y : Nat} (b : Nat) (hv : Var w b [.int .i64 (x : Nat), .int .i64 (y : Nat)] Ty.int) : InR (fun _ => True) w ⟨some ⟨b, 0, none⟩, 2, 2⟩ [x, y] := by
 refine ⟨hv.srcAll, Nat.le_refl _, fun q hq => ⟨trivial, ?_⟩⟩
 obtain ⟨A, hA, rfl⟩ := hq
 cases hA
 exact hv.lt
theorem change_top {w : World} {T : Tr} {c : Cg} {s : Sl} {ks : List Key} {kids : List Nat} (h : CgAt w T c) (hp : PcAt (fun q => ¬ T.M q) w s ks kids) (hh : kids.length = 2 → T.height < 12) (hs : ∀ k x y, ks = [k] → kids = [x, y] → keyOk k ∧ x < 1600 ∧ y < 1600)
   (hld : T.C.D.ld ≤ 900000080) (hroom : 1 ≤ roomT T) (hml : c.made.length ≤ 900) :
   Ret Tryz.prog F.tree_change_top #[.pointer (some ⟨c.cb, 0, none⟩), .slice s.a s.len s.cap] w (TopR T c ks kids w) := by
 have hhh := h.t.num.2.1
 refine W.tree_change_top_ok (some ⟨c.cb, 0, none⟩) s w _ ?_
 (delta W.tree_change_top Br bd r2 r1 c23 nA c21 wI; dsimp only)
 have hxd : Ext w w.drew := ext_drew w
 have hd := h.ext hxd
 rcases hp with ⟨b, x, rfl, rfl, rfl, hv, hb⟩ | ⟨b, x, y, k, t, rfl, rfl, rfl, hv, hb, ht, hk⟩
 · refine ⟨fun _ => nx ⟨_, rfl, ⟨by decide, by show (0 : Int) < ((1 : Nat) : Int); decide⟩, id, _, by rw [add_mk, add_mk]; exact hv.drew.cell, _, rfl, id, _, hd.cells.1, _, rfl, id, _, hd.t.cells.2.2.2.2, ?_⟩, fun h => (by cases h)⟩
   exact .inl ⟨x, rfl, rfl, rfl, hd, hxd⟩
 · have hh := hh rfl
   obtain ⟨s1, s2, s3⟩ := hs k x y rfl rfl
   refine ⟨fun h => (by cases h), fun _ => ⟨_, rfl, _, h.cells.1, _, rfl, _, h.t.cells.2.2.2.2, fun h12 => ?_, fun _ => ?_⟩⟩
   · have : ((T.height : Nat) : Int) = 12 := by simpa using h12
     omega
   have hsn : SoundN ⟨false, [k], [], [x, y]⟩ := .inr ⟨⟨fun k' hk' => by rw [List.mem_singleton.1 hk']; exact s1, List.pairwise_singleton _ _⟩, rfl, by simp, rfl, rfl, fun z hz => by
     simp only [List.mem_cons, List.not_mem_nil, or_false] at hz
     rcases hz with rfl | rfl <;> assumption⟩
   have hsz : nsize ⟨false, [k], [], [x, y]⟩ ≤ 232 := by
     have := s1.2
     simp [nsize, cellsOf]
     omega
   have hbN : ¬ T.N b := fun hn => hb (Tr.NM hn)
   have fin : ∀ (w22 : World) (bk bd : Nat), Ext w w22 → Var w22 bk [.slice t.a t.len t.cap] Ty.Sl_uint8 → Var w22 bd [.int .i64 (x : Nat), .int .i64 (y : Nat)] Ty.int →
       Ret Tryz.prog F.tree_change_put #[.pointer (some ⟨c.cb, 0, none⟩), .agg #[.bool false, .slice (some ⟨bk, 0, none⟩) 1 1, .slice none 0 0, .slice (some ⟨bd, 0, none⟩) 2 2]] w22 (fun v w' => ∃ n27 : Int, ∃ n28 : Int, v = .tuple #[.int .i64 n27, .int .i64 n28] ∧ Chg T.N w22 w' ∧
         ∀ w'', Ext w' w'' → TopR T c [k] [x, y] w (.tuple #[.int .i64 n27, .int .i64 ((T.height + 1 : Nat) : Int), .int .i64 n28]) w'' ∧ ∃ T' c', CgAt w'' T' c' ∧ c'.cb = c.cb ∧ T'.tb = T.tb ∧ T'.height = T.height) := by
     intro w22 bk bd hx hbk hbd
     have hnd : NdAt (fun _ => True) w22 ⟨false, [k], [], [x, y]⟩ ⟨some ⟨bk, 0, none⟩, 1, 1⟩ ⟨none, 0, 0⟩ ⟨some ⟨bd, 0, none⟩, 2, 2⟩ := by
       exact ⟨newKeys bk hbk (Tx.weak (Tx.ext ht hx) fun _ _ _ => trivial), TxR.none _ _, newKids bd hbd⟩
     refine (change_put (h.ext hx) (by omega) hroom (by omega) hnd hsn hsz).mono ?_
     rintro v w' ⟨no, T', c', hc', hto, hres⟩
     have hcu := ((CTU.ext T c hx).trans hto).mono (j := 1) (by omega)
     rcases hres with ⟨rfl, hP⟩ | ⟨rfl, hnc⟩
     · refine ⟨_, _, rfl, hto.to.chg, fun w'' hx2 => ⟨.inr ⟨k, x, y, no, T', c', rfl, rfl, hc'.ext hx2, (hcu.trans (CTU.ext T' c' hx2)).mono (by omega), .inl ⟨rfl, hP⟩⟩, T', c', hc'.ext hx2, hto.cb, hto.to.tb, hto.height⟩⟩
     · refine ⟨_, _, rfl, hto.to.chg, fun w'' hx2 => ⟨.inr ⟨k, x, y, no, T', c', rfl, rfl, hc'.ext hx2, (hcu.trans (CTU.ext T' c' hx2)).mono (by omega), .inr ⟨rfl, hnc⟩⟩, T', c', hc'.ext hx2, hto.cb, hto.to.tb, hto.height⟩⟩
   have hwr : IntKind.wrap .i64 (((T.height : Nat) : Int) + 1) = ((T.height + 1 : Nat) : Int) := by rw [wrapi (by omega) (by omega)]; rfl
   refine Jn2 (fun a b w' => ∀ w'', Ext w' w'' → TopR T c [k] [x, y] w (.tuple #[.int .i64 a, .int .i64 ((T.height + 1 : Nat) : Int), .int .i64 b]) w'' ∧ ∃ T' c', CgAt w'' T' c' ∧ c'.cb = c.cb ∧ T'.tb = T.tb ∧ T'.height = T.height) (fun q hq => nx ⟨T.N, _, rfl, ⟨by decide, by show (1 : Int) < ((2 : Nat) : Int); decide⟩, hbN, t, by rw [add_mk]; exact hv.drew.cell, _, rfl, ⟨by decide, by show (0 : Int) < ((2 : Nat) : Int); decide⟩, hbN, _, by rw [add_mk, add_mk]; exact hv.drew.cell, _, rfl, ⟨by decide, by show (1 : Int) < ((2 : Nat) : Int); decide⟩, hbN, _, by rw [add_mk, add_mk]; exact hv.drew.cell, ?_, ?_⟩) ?_
   · refine nxVar (vs := [.slice t.a t.len t.cap]) rfl fun w21 hk21 hx21 hs21 => ⟨Chg.of_ext hx21, nxVar (vs := [.int .i64 (x : Nat), .int .i64 (y : Nat)]) rfl fun w22 hd22 hx22 hs22 => ⟨Chg.of_ext hx22, _, fun _ => buildNd2 _ _ _, ?_⟩⟩
     refine (fin w22 w.drew.heap.size w21.heap.size (hxd.trans (hx21.trans hx22)) (hk21.ext hx22) hd22).use ?_
     rintro _ w' ⟨n27, n28, rfl, hc, hT⟩
     exact ⟨n27, n28, rfl, hc, hq _ _ _ hT⟩
   · refine nxVar (vs := [.int .i64 (x : Nat), .int .i64 (y : Nat)]) rfl fun w21 hd21 hx21 hs21 => ⟨Chg.of_ext hx21, nxVar (vs := [.slice t.a t.len t.cap]) rfl fun w22 hk22 hx22 hs22 => ⟨Chg.of_ext hx22, _, fun _ => buildNd2 _ _ _, ?_⟩⟩
     refine (fin w22 w21.heap.size w.drew.heap.size (hxd.trans (hx21.trans hx22)) hk22 (hd21.ext hx22)).use ?_
     rintro _ w' ⟨n27, n28, rfl, hc, hT⟩
     exact ⟨n27, n28, rfl, hc, hq _ _ _ hT⟩
   · intro a b w39 hT
     obtain ⟨h1, T', c', h2, h3, h4, h5⟩ := hT _ (ext_drew w39)
     have hc := h2.cells.1
     rw [h3] at hc
     have ht := h2.t.cells.2.2.2.2
     refine nx ⟨_, rfl, id, _, hc, _, rfl, id, _, ht, ?_⟩
     rw [h5, hwr]
     exact h1
end Go.Proofs.YtplieiecebljmaaGreat
namespace Go.Proofs.YtplieiecebljmaaGreat
open Go Gx
theorem VN.fitOk {P : Nat → Option Nd} {lo hi : Option Key} {h : Nat} {n : Nd} {p : List Nat} {L : List KV} (hv : VN P h n lo hi p L) (h2 : n.leaf = true → nsize n ≤ 310) (h3 : n.leaf = false → nsize n ≤ 335) (hk : n.leaf = false → n.keys ≠ []) : FitOk n := by
 refine ⟨?_, by cases hl : n.leaf; exact Nat.le_trans (h3 hl) (by decide); exact Nat.le_trans (h2 hl) (by decide), fun hs => ?_⟩
 · cases h with
   | zero => exact hv.elim
   | succ h =>
     cases h with
     | zero => exact .inl hv.1
     | succ h =>
       obtain ⟨g1, g2, g3, g4, g5⟩ := hv
       have hs := g5.sorted fun _ _ _ _ _ hw => hw.in
       exact .inr ⟨⟨g3, hs.2.2.1⟩, g1, hk g1, g5.len, g2, g4⟩
 · obtain ⟨g1, g2, g3, g4, _⟩ := hv.two (Q := P) (x := 0) (y := 0) hs h2 h3
   exact ⟨g1, g2, g3, g4⟩
section
variable {P : Nat → Option Nd} {lo hi : Option Key}
theorem ahead_merged {h : Nat} {n0 n' : Nd} {lo' hi' : Option Key} {i : Nat} {p1 q' : List Nat} {L1 M' : List KV} {k : Key} (hk0 : ∀ k ∈ n0.keys, keyOk k) (hlen : n0.kids.length = n0.keys.length + 1) (hP : ∀ x n, P x = some n → nsize n ≤ 232)
   (hi1 : 1 ≤ i) (hik : i < n0.kids.length) (hin : inB lo' hi' k)
   (hp : Pre (WfK P (h + 1)) lo lo' (n0.keys.take i) (n0.kids.take i) p1 L1) (hv : VN P (h + 1) n' lo' hi' q' M') (h1 : nsize n' < 80) :
   ∃ (o : Nd) (hb : i - 1 < n0.kids.length) (hb2 : i - 1 < n0.keys.length), P n0.kids[i - 1] = some o ∧ o.leaf = n'.leaf ∧ keyOk n0.keys[i - 1] ∧ FitOk (mergeN o n0.keys[i - 1] n') := by
 obtain ⟨s, lo2, p0, r, L0, N, hs, rfl, hse, rfl, rfl, ⟨hw, m, hm, hm2⟩, hpre, hll⟩ := hp.last (by rw [List.length_take]; omega)
 have hkl : (n0.keys.take i).length = i := by rw [List.length_take]; omega
 have hdl : (n0.kids.take i).length = i := by rw [List.length_take]; omega
 have hse : s = n0.keys[i - 1]'(by omega) := by
   rw [hse, List.getElem_take]; congr 1; omega
 have hke : (n0.kids.take i)[(n0.kids.take i).length - 1]'(by omega) = n0.kids[i - 1]'(by omega) := by
   rw [List.getElem_take]; congr 1; omega
 rw [hke] at hw hm
 obtain ⟨o, r', ho1, rfl, _, hvo⟩ := hw.vn
 rw [ho1] at hm
 have hm2 : 2 ≤ o.keys.length := by rw [Option.some.inj hm]; exact hm2
 clear hm
 subst hse
 have hN := (show WfK P (h + 1) lo2 (some (n0.keys[i - 1]'(by omega))) (n0.kids[i - 1]'(by omega)) (n0.kids[i - 1]'(by omega) :: r') N from ⟨hw, o, ho1, hm2⟩).in
 obtain ⟨x, hx⟩ := List.exists_mem_of_ne_nil _ hN.1
 have hsk := hk0 _ (List.getElem_mem (l := n0.keys) (n := i - 1) (by omega))
 have hmv := VN.merge hvo hv hsk (fun c hc => leK_of_lt (ltK_of_le_of_lt ((hN.2.2 x hx).1 c hc) ((hN.2.2 x hx).2 _ rfl))) (fun c hc => leK_of_lt (ltK_of_le_of_lt (hin.1 _ rfl) (hin.2 c hc)))
 have hsz := merged_size hvo hv hsk (by have := hP _ _ ho1; omega)
 have hmk := mergeN_keys (a := o) (b := n') (s := n0.keys[i - 1]'(by omega))
 refine ⟨o, by omega, by omega, ho1, by rw [hvo.leaf, hv.leaf], hsk, hmv.fitOk hsz.1 hsz.2 fun _ e => ?_⟩
 rw [e, List.length_nil] at hmk
 omega
theorem behind_merged {h : Nat} {n0 n' : Nd} {lo' hi' : Option Key} {i : Nat} {p2 q' : List Nat} {M' L2 : List KV} {k : Key} (hk0 : ∀ k ∈ n0.keys, keyOk k) (hlen : n0.kids.length = n0.keys.length + 1) (hP : ∀ x n, P x = some n → nsize n ≤ 232)
   (hik : i + 1 < n0.kids.length) (hin : inB lo' hi' k)
   (ho : Post (WfK P (h + 1)) hi hi' (n0.keys.drop i) (n0.kids.drop (i + 1)) p2 L2) (hv : VN P (h + 1) n' lo' hi' q' M') (h1 : nsize n' < 80) :
   ∃ (o : Nd) (hb : i + 1 < n0.kids.length) (hb2 : i < n0.keys.length), P n0.kids[i + 1] = some o ∧ o.leaf = n'.leaf ∧ keyOk n0.keys[i] ∧ FitOk (mergeN n' n0.keys[i] o) := by
 obtain ⟨s, hi2, r, p3, N, L3, hs, rfl, hse, rfl, rfl, ⟨hw, m, hm, hm2⟩, hpost⟩ := ho.head (by rw [List.length_drop]; omega)
 have hse : s = n0.keys[i]'(by omega) := by rw [hse, List.getElem_drop]; rfl
 have hke : (n0.kids.drop (i + 1))[0]'(by rw [List.length_drop]; omega) = n0.kids[i + 1]'hik := by rw [List.getElem_drop]
 rw [hke] at hw hm
 obtain ⟨o, r', ho1, rfl, _, hvo⟩ := hw.vn
 rw [ho1] at hm
 have hm2 : 2 ≤ o.keys.length := by rw [Option.some.inj hm]; exact hm2
 clear hm
 subst hse
 have hN := (show WfK P (h + 1) (some (n0.keys[i]'(by omega))) hi2 (n0.kids[i + 1]'hik) (n0.kids[i + 1]'hik :: r') N from ⟨hw, o, ho1, hm2⟩).in
 obtain ⟨x, hx⟩ := List.exists_mem_of_ne_nil _ hN.1
 have hsk := hk0 _ (List.getElem_mem (l := n0.keys) (n := i) (by omega))
 have hmv := VN.merge hv hvo hsk (fun c hc => leK_of_lt (ltK_of_le_of_lt (hin.1 c hc) (hin.2 _ rfl))) (fun c hc => leK_of_lt (ltK_of_le_of_lt ((hN.2.2 x hx).1 _ rfl) ((hN.2.2 x hx).2 c hc)))
 have hsz := merged_size hv hvo hsk (by have := hP _ _ ho1; omega)
 have hmk := mergeN_keys (a := n') (b := o) (s := n0.keys[i]'(by omega))
 refine ⟨o, hik, by omega, ho1, by rw [hvo.leaf, hv.leaf], hsk, hmv.fitOk hsz.1 hsz.2 fun _ e => ?_⟩
 rw [e, List.length_nil] at hmk
 omega
inductive Ctx (P : Nat → Option Nd) (k : Key) (top : Nat) : Nat → Option Key → Option Key → List (Nat × Nd × Nat) → List Nat → List KV → List KV → Prop
 | top : Ctx P k top top none none [] [] [] []
 | step {lev : Nat} {lo hi lo' hi' : Option Key} {st : List (Nat × Nd × Nat)} {pg : List Nat} {A B : List KV} {no : Nat} {n : Nd} {p1 p2 : List Nat} {L1 L2 : List KV} (h : Ctx P k top (lev + 2) lo hi st pg A B) (hP : P no = some n) (hl : n.leaf = false) (hko : ∀ k ∈ n.keys, keyOk k) (hkd : ∀ x ∈ n.kids, x < 1600)
     (hlen : n.kids.length = n.keys.length + 1) (hk : n.keys ≠ []) (hk2 : st ≠ [] → 2 ≤ n.keys.length) (hin : inB lo' hi' k) (hp : Pre (WfK P (lev + 1)) lo lo' (n.keys.take (kidIx n.keys k)) (n.kids.take (kidIx n.keys k)) p1 L1)
     (ho : Post (WfK P (lev + 1)) hi hi' (n.keys.drop (kidIx n.keys k)) (n.kids.drop (kidIx n.keys k + 1)) p2 L2) : Ctx P k top (lev + 1) lo' hi' (st ++ [(no, n, kidIx n.keys k)]) (no :: (p1 ++ (p2 ++ pg))) (A ++ L1) (L2 ++ B)
theorem Ctx.lev {k : Key} {top lev : Nat} {st : List (Nat × Nd × Nat)} {pg : List Nat} {A B : List KV} (h : Ctx P k top lev lo hi st pg A B) : lev + st.length = top := by
 induction h with
 | top => rfl
 | step h _ _ _ _ _ _ _ _ _ _ ih => rw [List.length_append, List.length_singleton]; omega
theorem Ctx.agree {Q : Nat → Option Nd} {k : Key} {top lev : Nat} {st : List (Nat × Nd × Nat)} {pg : List Nat} {A B : List KV} (h : Ctx P k top lev lo hi st pg A B) (hq : ∀ x ∈ pg, P x = Q x) : Ctx Q k top lev lo hi st pg A B := by
 induction h with
 | top => exact .top
 | @step lev lo hi lo' hi' st pg A B no n p1 p2 L1 L2 h hP hl hko hkd hlen hk hk2 hin hp ho ih =>
   refine .step (ih fun x hx => hq x (by simp [hx])) (by rw [← hq no (by simp)]; exact hP) hl hko hkd hlen hk hk2 hin (hp.monoP fun _ _ _ _ _ hs hw => hw.agree fun x hx => hq x ?_) (ho.monoP fun _ _ _ _ _ hs hw => hw.agree fun x hx => hq x ?_)
   · have := hs x hx; simp [this]
   · have := hs x hx; simp [this]
theorem Ctx.down {k : Key} {top : Nat} : ∀ {lev : Nat} {lo hi : Option Key} {st : List (Nat × Nd × Nat)} {pg : List Nat} {A B M L0 : List KV} {no : Nat} {p : List Nat}, Ctx P k top (lev + 1) lo hi st pg A B → Wf P (lev + 1) lo hi no p M → (st ≠ [] → ∃ m, P no = some m ∧ 2 ≤ m.keys.length) → inB lo hi k → L0 = A ++ (M ++ B) → (∀ u, Loc k u → u L0 = A ++ (u M ++ B)) →
   ∃ (rest st1 : List (Nat × Nd × Nat)) (no1 : Nat) (n1 : Nd) (lo1 hi1 : Option Key) (pg1 : List Nat) (A1 B1 : List KV), WayOk P k (lev + 1) no rest ∧ st ++ rest = st1 ++ [(no1, n1, 0)] ∧ Ctx P k top 1 lo1 hi1 st1 pg1 A1 B1 ∧ P no1 = some n1 ∧ LeafOk n1 ∧ n1.within lo1 hi1 ∧ n1.keys ≠ [] ∧ (st1 ≠ [] → 2 ≤ n1.keys.length) ∧ inB lo1 hi1 k ∧
     (p ++ pg).Perm (no1 :: pg1) ∧ L0 = A1 ++ (n1.pairs ++ B1) ∧ ∀ u, Loc k u → u L0 = A1 ++ (u n1.pairs ++ B1)
 | 0, lo, hi, st, pg, A, B, M, L0, no, p, hc, hw, h2, hin, hL, hu => by
   obtain ⟨n, h1, h3, h4, h5, rfl, rfl⟩ := hw
   refine ⟨[(no, n, 0)], st, no, n, lo, hi, pg, A, B, ⟨n, [], h1, by rw [h3.leaf]; rfl, rfl, rfl⟩, rfl, hc, h1, h3, h4, h5, fun hs => ?_, hin, List.Perm.refl _, hL, hu⟩
   obtain ⟨m, hm, hm2⟩ := h2 hs
   rw [h1] at hm; cases hm
   exact hm2
 | lev + 1, lo, hi, st, pg, A, B, M, L0, no, p, hc, hw, h2, hin, hL, hu => by
   obtain ⟨n, p', h1, rfl, h3, hv⟩ := hw.vn
   obtain ⟨lo', hi', p1, q, p2, L1, M', L2, hb, rfl, rfl, hwk, hin', hu', hlen, hpre, hpost⟩ := hv.at hin
   obtain ⟨g1, g2, g3, g4, _⟩ := hv
   have hc' := Ctx.step hc h1 g1 g3 g4 hlen h3 (fun hs => by
     obtain ⟨m, hm, hm2⟩ := h2 hs
     rw [h1] at hm; cases hm
     exact hm2) hin' hpre hpost
   obtain ⟨rest, st1, no1, n1, lo1, hi1, pg1, A1, B1, r1, r2, r3, r4, r5, r6, r7, r8, r9, r10, r11, r12⟩ := Ctx.down (L0 := L0) hc' hwk.1 (fun _ => hwk.2) hin' (by rw [hL]; simp only [List.append_assoc]) (fun u hl => by rw [hu u hl, hu' u hl]; simp only [List.append_assoc])
   refine ⟨(no, n, kidIx n.keys k) :: rest, st1, no1, n1, lo1, hi1, pg1, A1, B1, ⟨n, rest, h1, by rw [g1]; simp, by rw [if_neg (by omega)], ?_⟩, ?_, r3, r4, r5, r6, r7, r8, r9, ?_, r11, r12⟩
   · rw [List.getD_eq_getElem?_getD, List.getElem?_eq_getElem hb]
     exact r1
   · rw [← r2]; simp
   · refine List.Perm.trans ?_ r10
     have e1 : (no :: (p1 ++ (q ++ p2)) ++ pg) = no :: (p1 ++ (q ++ (p2 ++ pg))) := by simp [List.append_assoc]
     rw [e1]
     have e2 : (q ++ no :: (p1 ++ (p2 ++ pg))).Perm (no :: (q ++ (p1 ++ (p2 ++ pg)))) := List.perm_middle
     refine List.Perm.trans ?_ e2.symm
     refine List.Perm.cons _ ?_
     have e3 := (List.perm_append_comm (l₁ := p1) (l₂ := q)).append_right (p2 ++ pg)
     simpa [List.append_assoc] using e3
end
end Go.Proofs.YtplieiecebljmaaGreat
namespace Go.Proofs.YtplieiecebljmaaGreat
open Go Gx
theorem perm3 {α : Type} (a b c : List α) : (a ++ (b ++ c)).Perm (a ++ c ++ b) := by
 rw [List.append_assoc]
 exact (List.perm_append_comm (l₁ := b) (l₂ := c)).append_left a
theorem Ctx.up {P : Nat → Option Nd} {lo hi : Option Key} {k : Key} {top lev : Nat} {st st0 : List (Nat × Nd × Nat)} {pg : List Nat} {A B : List KV} {u : Sp} {n' : Nd} {q : List Nat} {M : List KV} (hc : Ctx P k top lev lo hi st pg A B) (hst : st = st0 ++ [u.st]) (hv : VN P lev n' lo hi q M) (hP : ∀ x n, P x = some n → nsize n ≤ 232) (hs : nsize n' ≤ 282) :
   ∃ (lo0 hi0 : Option Key) (pg0 : List Nat) (A0 B0 : List KV) (ps : List Nat), Ctx P k top (lev + 1) lo0 hi0 st0 pg0 A0 B0 ∧ pg = u.no :: (ps ++ pg0) ∧ P u.no = some u.n ∧ u.kid < u.n.kids.length ∧ u.n.kids.length = u.n.keys.length + 1 ∧ u.n.keys ≠ [] ∧ (st0 ≠ [] → 2 ≤ u.n.keys.length) ∧
     (80 ≤ nsize n' → ∀ (Q : Nat → Option Nd) (ks : List Key) (kids : List Nat), FitsOk Q n' ks kids → (∀ x ∈ ps ++ q, P x = Q x) → (∀ x ∈ kids, x < 1600) → ∃ (q2 : List Nat) (M2 : List KV), VN Q (lev + 1) (changedN u.n u.kid (u.kid + 1) ks kids) lo0 hi0 q2 M2 ∧ A0 ++ (M2 ++ B0) = A ++ (M ++ B) ∧ q2.Perm (kids ++ (ps ++ q)) ∧
       nsize (changedN u.n u.kid (u.kid + 1) ks kids) ≤ nsize u.n + 27 ∧ u.n.keys.length ≤ (changedN u.n u.kid (u.kid + 1) ks kids).keys.length + 1) ∧
     (nsize n' < 80 → ∃ (o : Nd) (no : Nat) (rest : List Nat), u.n.kids[otherIx u]? = some no ∧ P no = some o ∧ o.leaf = n'.leaf ∧ u.kid - 1 < u.n.keys.length ∧ keyOk (u.n.keys.getD (u.kid - 1) []) ∧ FitOk (mergedN u n' o) ∧ ps.Perm (no :: rest) ∧
       ∀ (Q : Nat → Option Nd) (ks : List Key) (kids : List Nat), FitsOk Q (mergedN u n' o) ks kids → (∀ x ∈ rest ++ q, P x = Q x) → (∀ x ∈ kids, x < 1600) → ∃ (q2 : List Nat) (M2 : List KV), VN Q (lev + 1) (changedN u.n (u.kid - 1) (u.kid - 1 + 2) ks kids) lo0 hi0 q2 M2 ∧ A0 ++ (M2 ++ B0) = A ++ (M ++ B) ∧ q2.Perm (kids ++ (rest ++ q)) ∧
         nsize (changedN u.n (u.kid - 1) (u.kid - 1 + 2) ks kids) ≤ nsize u.n + 27 ∧ u.n.keys.length ≤ (changedN u.n (u.kid - 1) (u.kid - 1 + 2) ks kids).keys.length + 1) := by
 cases hc with
 | top =>
   have := congrArg List.length hst
   simp at this
 | @step lev lo0 hi0 _ _ st' pg0 A0 B0 no0 n0 p1 p2 L1 L2 h hP0 hl hko hkd hlen hk hk2 hin hp ho =>
   obtain ⟨rfl, h2⟩ := List.append_inj' hst rfl
   have h3 : (no0, n0, kidIx n0.keys k) = u.st := by simpa using h2
   have hno : no0 = u.no := congrArg Prod.fst h3
   have hn : n0 = u.n := congrArg (fun x => x.2.1) h3
   have hkid : kidIx n0.keys k = u.kid := congrArg (fun x => x.2.2) h3
   subst hno hn
   rw [hkid] at hp ho
   have hki := kidIx_le u.n.keys k
   rw [hkid] at hki
   refine ⟨lo0, hi0, pg0, A0, B0, p1 ++ p2, h, by rw [List.append_assoc], hP0, by omega, hlen, hk, hk2, fun h80 Q ks kids hf hq hkd' => ?_, fun h80 => ?_⟩
   · obtain ⟨p', g1, g2, g3, g4⟩ := up_one hl hko hkd hp ho hv h80 hs hf (fun x hx => hq x (by
       simp only [List.mem_append] at hx ⊢
       rcases hx with hx | hx | hx
       · exact .inl (.inl hx)
       · exact .inr hx
       · exact .inl (.inr hx))) hkd'
     refine ⟨p', _, g1, by simp only [List.append_assoc], g2.trans (List.Perm.append_left kids ?_), g3, by omega⟩
     exact perm3 p1 q p2
   · by_cases h0 : u.kid = 0
     · obtain ⟨o, m1, m2, m3, m4, m5, m6⟩ := behind_merged hko hlen hP (i := u.kid) (by
         have : u.n.keys.length ≠ 0 := fun e => hk (List.eq_nil_of_length_eq_zero e)
         omega) hin ho hv h80
       obtain ⟨o2, p2', u1, u2, u3, u4, _, u5⟩ := up_behind hl hko hkd hlen hP m1 hin hp ho hv h80
       rw [m3] at u3
       obtain rfl := Option.some.inj u3
       have e1 : otherIx u = u.kid + 1 := by unfold otherIx; rw [if_pos h0, h0]
       have e2 : u.kid - 1 = u.kid := by omega
       have e3 : u.n.keys.getD (u.kid - 1) [] = u.n.keys[u.kid] := by rw [e2, List.getD_eq_getElem?_getD, List.getElem?_eq_getElem m2]; rfl
       have e4 : mergedN u n' o = mergeN n' u.n.keys[u.kid] o := by unfold mergedN; rw [if_pos (by rw [e1]; omega), e3]
       refine ⟨o, u.n.kids[u.kid + 1], p1 ++ p2', by rw [e1]; exact List.getElem?_eq_getElem m1, m3, m4, by omega, by rw [e3]; exact m5, by rw [e4]; exact m6, ?_, fun Q ks kids hf hq hkd' => ?_⟩
       · exact (List.Perm.append_left p1 u4).trans List.perm_middle
       · rw [e4] at hf
         obtain ⟨p', g1, g2, g3, g4⟩ := u5 Q ks kids hf (fun x hx => hq x (by
           simp only [List.mem_append] at hx ⊢
           rcases hx with hx | hx | hx
           · exact .inl (.inl hx)
           · exact .inr hx
           · exact .inl (.inr hx))) hkd'
         rw [e2]
         exact ⟨p', _, g1, by simp only [List.append_assoc], g2.trans (List.Perm.append_left kids (perm3 p1 q p2')), g3, g4⟩
     · obtain ⟨o, m1, m2, m3, m4, m5, m6⟩ := ahead_merged hko hlen hP (i := u.kid) (by omega) (by omega) hin hp hv h80
       obtain ⟨o2, p1', u1, u2, u3, u4, _, u5⟩ := up_ahead hl hko hkd hlen hP (by omega) (by omega) hin hp ho hv h80
       rw [m3] at u3
       obtain rfl := Option.some.inj u3
       have e1 : otherIx u = u.kid - 1 := by unfold otherIx; rw [if_neg h0]
       have e3 : u.n.keys.getD (u.kid - 1) [] = u.n.keys[u.kid - 1] := by rw [List.getD_eq_getElem?_getD, List.getElem?_eq_getElem m2]; rfl
       have e4 : mergedN u n' o = mergeN o u.n.keys[u.kid - 1] n' := by unfold mergedN; rw [if_neg (by rw [e1]; omega), e3]
       have e5 : u.kid - 1 + 2 = u.kid + 1 := by omega
       refine ⟨o, u.n.kids[u.kid - 1], p1' ++ p2, by rw [e1]; exact List.getElem?_eq_getElem m1, m3, m4, m2, by rw [e3]; exact m5, by rw [e4]; exact m6, ?_, fun Q ks kids hf hq hkd' => ?_⟩
       · exact (u4.append_right p2)
       · rw [e4] at hf
         obtain ⟨p', g1, g2, g3, g4⟩ := u5 Q ks kids hf (fun x hx => hq x (by
           simp only [List.mem_append] at hx ⊢
           rcases hx with hx | hx | hx
           · exact .inl (.inl hx)
           · exact .inr hx
           · exact .inl (.inr hx))) hkd'
         rw [e5]
         exact ⟨p', _, g1, by simp only [List.append_assoc], g2.trans (List.Perm.append_left kids (perm3 p1' q p2)), g3, g4⟩
end Go.Proofs.YtplieiecebljmaaGreat
namespace Go.Proofs.YtplieiecebljmaaGreat
open Go Gx
theorem CgAt.wE {w : World} {T : Tr} {c : Cg} {E : Nat → Prop} (h : CgAt w T c) (hE : ∀ q, E q → T.E q) : CgAt w (T.wO E T.G) c :=
 h.of (T' := T.wO E T.G) (W := fun _ => False) (h.t.grow (W := fun _ => False) (Chg.refl _ _) (fun _ h => h.elim) (fun q hq => .inl (hE q hq)) (fun q hq => .inr (.inl hq)) fun q hq => (h.t.de q (hE q hq)).2.2) (Chg.refl _ _) (fun _ _ h => h) rfl fun _ h => h
theorem CTU.local {T T' : Tr} {c c' : Cg} {m l : List Nat} {E1 : Nat → Prop} {w w1 w' : World} {k : Nat} (h : CTU (T.wO E1 T.G) T' c c' m l w1 w' k) (hx : Ext w w1) (hE1 : ∀ q, E1 q → T.E q ∨ w.heap.size ≤ q) (hE : ∀ q, T.E q → E1 q) : CTU T (T'.wO T.E T'.G) c c' m l w w' k :=
 ⟨h.to.local hx hE1 (fun q hq => .inl hq) (fun q hq => .inl (by rw [h.E]; exact hE q hq)) fun q hq => hq, rfl, h.G, h.root, h.height, h.cb, h.made, h.left, h.nd, h.mf, h.f, h.keep, h.room⟩
theorem CgAt.chgE {w w' : World} {T : Tr} {c : Cg} {W : Nat → Prop} (h : CgAt w T c) (hc : Chg W w w') (hW : ∀ q, W q → T.E q ∨ w.heap.size ≤ q) : CgAt w' T c := by
 have hc2 : Chg (fun q => T.E q) w w' := chgGrow (W := fun q => T.E q) (Chg.refl _ _) hc fun q hq hw => (hW q hw).resolve_right (by omega)
 exact h.of (h.t.grow (E := T.E) (G := T.G) hc2 (fun q hq _ => .inl hq) (fun q hq => .inl hq) (fun q hq => .inr (.inl hq)) fun q hq => (h.t.de q hq).2.2) hc2 (fun q hg he => (h.t.de q he).2.2 hg) rfl fun _ h => h
theorem WayM.to {w w' : World} {T T' : Tr} {k : Nat} {s : Sl} {l : List Sp} (h : WayM (fun q => ¬ T.M q) w s l) (ht : TTo T T' w w' k) : WayM (fun q => ¬ T'.M q) w' s l := by
 refine ⟨h.own.chg ht.chg fun q hq hn => h.bl q hq (Tr.NM hn), fun q hq hm => ?_, fun x hx => ?_⟩
 · rcases ht.fp q hm with h1 | h1
   · exact h.bl q hq h1
   · have := OwnS.lt h.own q hq; omega
 · exact (ht.nd (lo := 0) ((h.nd x hx).weak fun q _ hb => ⟨Nat.zero_le _, hb⟩)).weak fun q _ hb => hb.2
theorem WayM.at {B : Nat → Prop} {w : World} {s : Sl} {l : List Sp} (h : WayM B w s l) {i : Nat} (hi : i < l.length) : ∃ A : Addr, s.a = some A ∧ s.len = l.length ∧ B A.block ∧ w.cell? (A.add (i * 6)) = some (.int .i64 ((l[i]).no : Nat)) ∧ UpAt B w (A.add (i * 6)) l[i] := by
 have hl := h.own.1
 rw [fl_length _ (spC l)] at hl
 have hsl : s.len = l.length := by omega
 rcases h.own.2.2.2 with ⟨h1, h2⟩ | ⟨b, c, hb, hv, hcs, htk⟩
 · have := h.own.2.1
   omega
 · have hcell : ∀ j, j < 6 → w.cell? ⟨b, i * 6 + j, none⟩ = ((Sp.c l[i]))[j]? := fun j hj => by
     rw [Blk.cell hv, ← fl_get (spC l) hi hj, ← htk]
     rw [List.getElem?_take, if_pos (by omega), Array.getElem?_toList]
   refine ⟨⟨b, 0, none⟩, hb, hsl, h.bl b ⟨_, hb, rfl⟩, ?_, ?_⟩
   · rw [add_mk, Nat.zero_add]
     exact hcell 0 (by decide)
   · rw [add_mk, Nat.zero_add]
     refine ⟨?_, ?_, ?_, ?_, ?_, h.nd _ (List.getElem_mem hi), h.bl b ⟨_, hb, rfl⟩, OwnS.lt h.own b ⟨_, hb, rfl⟩⟩
     · rw [add_mk]; exact hcell 1 (by decide)
     · rw [add_mk, add_mk]; exact hcell 2 (by decide)
     · rw [add_mk, add_mk]; exact hcell 3 (by decide)
     · rw [add_mk, add_mk]; exact hcell 4 (by decide)
     · rw [add_mk]; exact hcell 5 (by decide)
theorem Ctx.topInv {P : Nat → Option Nd} {lo hi : Option Key} {k : Key} {top lev : Nat} {pg : List Nat} {A B : List KV} (h : Ctx P k top lev lo hi [] pg A B) : lev = top ∧ lo = none ∧ hi = none ∧ pg = [] ∧ A = [] ∧ B = [] := by
 generalize hst : ([] : List (Nat × Nd × Nat)) = st at h
 cases h with
 | top => exact ⟨rfl, rfl, rfl, rfl, rfl, rfl⟩
 | step h => 
   have := congrArg List.length hst
   simp at this
end Go.Proofs.YtplieiecebljmaaGreat
namespace Go.Proofs.YtplieiecebljmaaGreat
open Go Gx
def UpR (T : Tr) (c : Cg) (p0 : List Nat) (Lnew : List KV) (w : World) (v : Value) (w' : World) : Prop :=
 ∃ (T' : Tr) (c' : Cg) (m l : List Nat), CgAt w' T' c' ∧ CTU T T' c c' m l w w' 60 ∧
   ((v = .tuple #[.int .i64 0, .int .i64 0, .int .i64 0] ∧ Lnew = [] ∧ l.Perm (m ++ p0)) ∨
    (∃ (root h : Nat) (pages : List Nat), v = .tuple #[.int .i64 (root : Nat), .int .i64 (h : Nat), .int .i64 0] ∧ Wf T'.P h none none root pages Lnew ∧ (pages ++ l).Perm (m ++ p0) ∧ 1 ≤ h ∧ h ≤ T.height + 1) ∨
    (∃ a b : Int, v = .tuple #[.int .i64 a, .int .i64 b, .int .i64 3] ∧ ¬ T.C.D.calm 60))
theorem UpR.local {T : Tr} {c : Cg} {p0 : List Nat} {Lnew : List KV} {E1 : Nat → Prop} {w w1 w' : World} {v : Value} (h : UpR (T.wO E1 T.G) c p0 Lnew w1 v w') (hx : Ext w w1) (hE1 : ∀ q, E1 q → T.E q ∨ w.heap.size ≤ q) (hE : ∀ q, T.E q → E1 q) : UpR T c p0 Lnew w v w' := by
 obtain ⟨T', c', m, l, h1, h2, h3⟩ := h
 exact ⟨T'.wO T.E T'.G, c', m, l, h1.wE fun q hq => by rw [h2.E]; exact hE q hq, h2.local hx hE1 hE, h3⟩
structure UpI (T1 : Tr) (c : Cg) (w7 : World) (wl : List Sp) (k : Key) (p0 : List Nat) (Lnew : List KV) (ws : Sl) (nv : Nat) (i : Nat) (w' : World) (T' : Tr) (c' : Cg) (m l : List Nat) (n : Nd) (K V D : Sl) (lo hi : Option Key) (pg : List Nat) (A B : List KV) (q : List Nat) (M : List KV) (r : List Nat) : Prop where
 ix : i < wl.length
 cg : CgAt w' T' c'
 to : CTU T1 T' c c' m l w7 w' (4 * (wl.length - 1 - i))
 ml : m.length ≤ 2 * (wl.length - 1 - i)
 ll : l.length ≤ 2 * (wl.length - 1 - i)
 nv : Var w' nv (ndL n K V D) Ty.api_Node
 nd : NdAt (fun q => ¬ T'.M q) w' n K V D
 way : WayM (fun q => ¬ T'.M q) w' ws wl
 ctx : Ctx T'.P k wl.length (wl.length - i) lo hi ((wl.take i).map Sp.st) pg A B
 vn : VN T'.P (wl.length - i) n lo hi q M
 eq : A ++ (M ++ B) = Lnew
 pp : p0.Perm ((wl[i]).no :: (r ++ pg))
 acc : (q ++ l).Perm (m ++ r)
 sz : nsize n ≤ 282
 nk : 1 ≤ i → n.keys ≠ []
 fq : ∀ x ∈ q ++ pg, T'.f x = true
theorem TrAt.sizes {w : World} {T : Tr} (h : TrAt w T) : ∀ x n, T.P x = some n → nsize n ≤ 232 := fun x n hx => (h.pn x n hx).2.is.2.2
theorem FitsR.cs {T : Tr} {c : Cg} {n : Nd} {w w' : World} {s : Sl} {e : Int} (h : FitsR T c n w (.tuple #[.slice s.a s.len s.cap, .int .i64 e]) w') :
   ∃ (T' : Tr) (c' : Cg) (m : List Nat), CgAt w' T' c' ∧ CTU T T' c c' m [] w w' 2 ∧ m.length ≤ 2 ∧ ((e = 0 ∧ ∃ ks, FitsOk T'.P n ks m ∧ PcAt (fun q => ¬ T'.M q) w' s ks m) ∨ (e = 3 ∧ ¬ T.C.D.calm 2)) := by
 obtain ⟨T', c', m, s2, h1, h2, h3, h4⟩ := h
 refine ⟨T', c', m, h1, h2, h3, ?_⟩
 rcases h4 with ⟨ks, hv, h5, h6⟩ | ⟨hv, h5⟩
 · simp at hv
   obtain ⟨⟨a1, a2, a3⟩, rfl⟩ := hv
   obtain rfl : s = s2 := by cases s; cases s2; simp_all
   exact .inl ⟨rfl, ks, h5, h6⟩
 · simp at hv
   exact .inr ⟨hv.2, h5⟩
theorem root_two {P Q Q2 : Nat → Option Nd} {t : Nat} {n : Nd} {q : List Nat} {M : List KV} {k0 : Key} {x y no : Nat} (hv : VN P (t + 1) n none none q M) (hs : nsize n ≤ 282) (hf : FitsOk Q n [k0] [x, y]) (hq : ∀ z ∈ q, P z = Q z) (hn : Q2 no = some ⟨false, [k0], [], [x, y]⟩) (hq2 : ∀ z ∈ x :: y :: q, Q z = Q2 z) (hx : x < 1600) (hy : y < 1600) :
   keyOk k0 ∧ ∃ pages, Wf Q2 (t + 2) none none no pages M ∧ pages.Perm (no :: x :: y :: q) := by
 have h80 : 232 < nsize n := by
   rcases hf with ⟨_, z, e, _⟩ | ⟨h, _⟩
   · cases e
   · exact h
 obtain ⟨p', g1, g2, g3, _⟩ := hv.fits (hv.keys2 (by omega)) (fun _ => by omega) (fun _ => by omega) hf hq
 have hvn : VN Q (t + 2) ⟨false, [k0], [], [x, y]⟩ none none p' M := ⟨rfl, rfl, g3, fun z hz => by
   simp only [List.mem_cons, List.not_mem_nil, or_false] at hz
   rcases hz with rfl | rfl <;> assumption, g1⟩
 refine ⟨g3 k0 (by simp), no :: p', hvn.lay (by simp) hn fun z hz => hq2 z ?_, List.Perm.cons no g2⟩
 have := g2.mem_iff.1 hz
 simpa using this
theorem perm_c {a b : List Nat} : a.Perm b ↔ ∀ x, a.count x = b.count x := List.perm_iff_count
theorem acc1 {q l m r : List Nat} {no : Nat} (h : (q ++ l).Perm (m ++ r)) : (q ++ (l ++ [no])).Perm (m ++ (no :: r)) := by
 rw [perm_c] at h ⊢
 intro x
 have := h x
 simp only [List.count_append, List.count_cons, List.count_nil] at this ⊢
 omega
theorem acc2 {q l m r q2 ps ms ls rest : List Nat} (h : (q ++ l).Perm (m ++ r)) (h2 : q2.Perm (ms ++ (rest ++ q))) (h3 : ps.Perm (ls ++ rest)) : (q2 ++ (l ++ ls)).Perm ((m ++ ms) ++ (ps ++ r)) := by
 rw [perm_c] at h h2 h3 ⊢
 intro x
 have := h x
 have := h2 x
 have := h3 x
 simp only [List.count_append, List.count_cons, List.count_nil] at *
 omega
theorem acc3 {p0 r ps pg0 : List Nat} {u : Nat} (h : p0.Perm (r ++ (u :: (ps ++ pg0)))) : p0.Perm (u :: ((ps ++ r) ++ pg0)) := by
 rw [perm_c] at h ⊢
 intro x
 have := h x
 simp only [List.count_append, List.count_cons, List.count_nil] at *
 omega
end Go.Proofs.YtplieiecebljmaaGreat
namespace Go.Proofs.YtplieiecebljmaaGreat
open Go Gx
theorem change_up {w : World} {T : Tr} {c : Cg} {wl : List Sp} {k : Key} {p0 pg : List Nat} {Lnew A B M : List KV} {lo hi : Option Key} {ws : Sl} {n : Nd} {K V D : Sl} (h : CgAt w T c) (hw : WayM (fun q => ¬ T.M q) w ws wl) (hn : NdAt (fun q => ¬ T.M q) w n K V D) (hne : 0 < wl.length) (hlen : wl.length = T.height) (hh : T.height < 12)
   (hld : T.C.D.ld ≤ 900000000) (hroom : 2 * T.height + 3 ≤ roomT T) (hmd : c.made.length ≤ 100) (hlf : c.left.length ≤ 100) (hctx : Ctx T.P k wl.length 1 lo hi ((wl.take (wl.length - 1)).map Sp.st) pg A B) (hvn : VN T.P 1 n lo hi [] M) (heq : A ++ (M ++ B) = Lnew)
   (hpp : p0.Perm ((wl[wl.length - 1]'(by omega)).no :: pg)) (hsz : nsize n ≤ 282) (hnk : 2 ≤ wl.length → n.keys ≠ []) (hfq : ∀ x ∈ pg, T.f x = true) :
   Ret Tryz.prog F.tree_change_up #[.pointer (some ⟨c.cb, 0, none⟩), .slice ws.a ws.len ws.cap, ndV n K V D] w (UpR T c p0 Lnew w) := by
 refine W.tree_change_up_ok (some ⟨c.cb, 0, none⟩) ws n.leaf K V D w _ ?_
 (delta W.tree_change_up r3 nA r1 z1 wI Br bd r2 st c10 c17 c11 c4; dsimp only)
 refine nxVar (vs := ndL n K V D) rfl fun w1 hp1 hx1 hs1 => ?_
 obtain ⟨c0, c1, c2, c3⟩ := ndCells hp1
 refine ⟨_, c0, K, c1, V, c2, D, c3, nxVar (vs := [.bool false, .slice none 0 0, .slice none 0 0, .slice none 0 0]) rfl fun w6 hp6 hx6 hs6 => ⟨hp6.storeOk rfl plain4, rfl, nxPut hp6 (us := ndL n K V D) rfl rfl fun w7 hp7 hc7 hs7 => ?_⟩⟩
 have hx7 : Ext w w7 := hx1.trans (Ext.of_chg hx6 hc7 (Nat.le_refl _))
 obtain ⟨nv, hnv⟩ : ∃ nv, nv = w1.heap.size := ⟨_, rfl⟩
 rw [← hnv] at hp7 ⊢
 obtain ⟨E1, hE1⟩ : ∃ E1, E1 = fun q => T.E q ∨ q = nv := ⟨_, rfl⟩
 have hEi : ∀ q, T.E q → E1 q := fun q hq => by rw [hE1]; exact .inl hq
 have hEo : ∀ q, E1 q → T.E q ∨ q = nv := fun q hq => by rw [hE1] at hq; exact hq
 have hEn : E1 nv := by rw [hE1]; exact .inr rfl
 have hnvlt := hp7.lt
 have h7 : CgAt w7 (T.wO E1 T.G) c := h.of (W := fun _ => False) (h.t.grow (W := fun _ => False) hx7 (fun _ h => h.elim) (fun q hq => (hEo q hq).imp id fun e => .inr ⟨by omega, by omega⟩) (fun q hq => .inr (.inl hq)) fun q hq hg => by
   rcases hEo q hq with h1 | h1
   · exact (h.t.de q h1).2.2 hg
   · have := h.t.lt (q := q) (.inr (.inr (.inr (.inr hg)))); omega) hx7 (fun _ _ h => h) rfl fun _ h => h
 have hto7 : TTo T (T.wO E1 T.G) w w7 0 := (TTo.refl T w).step (W := fun _ => False) hx7 (fun _ h => h.elim) (fun q hq => (hEo q hq).imp id fun e => .inr (by omega)) fun q hq => .inl hq
 have conv : ∀ (v : Value) (w' : World), UpR (T.wO E1 T.G) c p0 Lnew w1 v w' → UpR T c p0 Lnew w v w' := fun v w' hu => hu.local hx1 (fun q hq => (hEo q hq).imp id fun e => by omega) hEi
 obtain ⟨T1, hT1⟩ : ∃ T1, T1 = T.wO E1 T.G := ⟨_, rfl⟩
 have hw7 := hw.to hto7
 have hn7 : NdAt (fun q => ¬ (T.wO E1 T.G).M q) w7 n K V D := (hto7.nd (lo := 0) (hn.weak fun q _ hb => ⟨Nat.zero_le _, hb⟩)).weak fun q _ hb => hb.2
 have e1 : T1.P = T.P := by rw [hT1]; rfl
 have e2 : T1.f = T.f := by rw [hT1]; rfl
 have e3 : T1.E nv := by rw [hT1]; exact hEn
 have e4 : roomT T1 = roomT T := by rw [hT1]; rfl
 have e5 : T1.C = T.C := by rw [hT1]; rfl
 have e6 : T1.height = T.height := by rw [hT1]; rfl
 rw [← hT1] at h7 hw7 hn7 conv
 clear hT1 hto7 hE1 hEi hEo hEn
 have hnv1 : nv = w1.heap.size := hnv
 have hwl : ws.len = wl.length := by
   have := hw.own.1
   rw [fl_length _ (spC wl)] at this; omega
 refine ⟨fun n10 w' => ∃ (i : Nat) (T' : Tr) (c' : Cg) (m l : List Nat) (n : Nd) (K V D : Sl) (lo hi : Option Key) (pg : List Nat) (A B : List KV) (q : List Nat) (M : List KV) (r : List Nat), n10 = (i : Nat) ∧ UpI T1 c w1 wl k p0 Lnew ws nv i w' T' c' m l n K V D lo hi pg A B q M r, fun n10 _ => (n10 + 1).toNat,
   ⟨wl.length - 1, T1, c, [], [], n, K, V, D, lo, hi, pg, A, B, [], M, [], ?_, ?_⟩, ?_⟩
 · rw [wrapi (by omega) (by omega)]; omega
 · have e : wl.length - (wl.length - 1) = 1 := by omega
   refine ⟨by omega, h7, (CTU.ext T1 c (Ext.of_chg hx6 hc7 (Nat.le_refl _))).mono (by omega), Nat.zero_le _, Nat.zero_le _, hp7, hn7, hw7, by rw [e, e1]; exact hctx, by rw [e, e1]; exact hvn, heq, by simpa using hpp, List.Perm.refl _, hsz, fun h1 => hnk (by omega), fun x hx => by rw [e2]; exact hfq x (by simpa using hx)⟩
 clear hctx hvn heq hpp hsz hnk hfq hn hn7 hp7 hw hw7 hp1 c0 c1 c2 c3 hp6
 rintro _ w11 ⟨i, T', c', m, l, n, K, V, D, lo, hi, pg, A, B, q, M, r, rfl, I⟩
 have hix := I.ix
 have hcb0 := I.to.cb
 refine ⟨fun _ => nx ?_, fun hb => ?_⟩
 rotate_left
 · have : ¬ ((i : Nat) : Int) ≥ 0 := of_decide_eq_false hb
   omega
 have hxd : Ext w11 w11.drew := ext_drew _
 obtain ⟨w12, hw12⟩ : ∃ w12, w12 = w11.drew := ⟨_, rfl⟩
 rw [← hw12] at hxd ⊢
 have h12 := I.cg.ext hxd
 have hc12 := h12.cells.2.2
 rw [hcb0] at hc12
 have hway12 : WayM (fun q => ¬ T'.M q) w12 ws wl := I.way.to (TTo.ext T' hxd)
 obtain ⟨Aw, hAw, hwl2, hBw, hno, _⟩ := hway12.at hix
 have hlf2 : c'.left.length ≤ 200 := by rw [I.to.left, List.length_append]; have := I.ll; omega
 have hmd2 : c'.made.length ≤ 200 := by rw [I.to.made, List.length_append]; have := I.ml; omega
 obtain ⟨s', w20, g1, g2, g3, g4, g5⟩ := cg_left h12 (wl[i]).no (by omega)
 rw [hcb0] at g3 g4 g5
 have hab : ∀ n, (Aw.add n).block = Aw.block := fun n => by unfold Addr.add; split <;> rfl
 have hlw : ∀ q, ownB c'.lf q → T'.M q := fun q hq => .inr (.inr (.inr (.inr (h12.gl q hq).1)))
 refine ⟨ownB c'.lf, _, rfl, fun hq => (h12.gl _ hq).2 (by rw [hcb0, add_mk]), c'.lf, hc12, Aw, hAw, ⟨by omega, by omega⟩, fun hq => hBw (hlw _ ((hab _) ▸ hq)), _, by rw [Int.toNat_natCast]; exact hno, nx ⟨Chg.of_ext (ext_alloc _ _), s', w20, g1, g2, _, rfl, by rw [add_mk]; exact g3, by rw [add_mk]; exact g4, nx ?_⟩⟩
 rw [add_mk, Nat.zero_add]
 obtain ⟨w22, hw22⟩ : ∃ w22, w22 = w20.setCell ⟨c.cb, 2, none⟩ (.slice s'.a s'.len s'.cap) := ⟨_, rfl⟩
 rw [← hw22]
 obtain ⟨h22, hto22⟩ := g5 w22 hw22
 have hcu22 := CTU.leave (c := c') (c' := ⟨c.cb, c'.ma, s', c'.made, c'.left ++ [(wl[i]).no]⟩) (no := (wl[i]).no) hto22 rfl (fun q hq => .inl hq) hcb0.symm rfl rfl
 have hcu2 := (I.to.trans (CTU.ext T' c' hxd)).trans hcu22
 simp only [List.append_nil, Nat.add_zero] at hcu2
 have nvE : T'.E nv := by rw [I.to.E]; exact e3
 have hp22 := (I.nv.ext hxd).chg hto22.chg (h12.t.eN nvE)
 have hway22 := hway12.to hto22
 have hnd22 : NdAt (fun q => ¬ (T'.wO T'.E fun q => T'.G q ∨ ownB s' q).M q) w22 n K V D := (hto22.nd (lo := 0) ((I.nd.ext hxd).weak fun q _ hb => ⟨Nat.zero_le _, hb⟩)).weak fun q _ hb => hb.2
 obtain ⟨T2, hT2⟩ : ∃ T2, T2 = T'.wO T'.E fun q => T'.G q ∨ ownB s' q := ⟨_, rfl⟩
 have p1 : T2.P = T'.P := by rw [hT2]; rfl
 have p2 : T2.f = T'.f := by rw [hT2]; rfl
 have p3 : roomT T2 = roomT T' := by rw [hT2]; rfl
 have p4 : T2.E nv := by rw [hT2]; exact nvE
 have p5 : T2.height = T.height := by rw [hT2]; show T'.height = _; rw [I.to.height, e6]
 rw [← hT2] at h22 hto22 hcu22 hcu2 hway22 hnd22
 obtain ⟨c2, hc2⟩ : ∃ c2 : Cg, c2 = ⟨c.cb, c'.ma, s', c'.made, c'.left ++ [(wl[i]).no]⟩ := ⟨_, rfl⟩
 rw [← hc2] at h22 hcu22 hcu2
 have q1 : c2.cb = c.cb := by rw [hc2]
 have q2 : c2.made.length ≤ 200 := by rw [hc2]; exact hmd2
 have q3 : c2.left.length ≤ 201 := by rw [hc2, List.length_append, List.length_singleton]; omega
 obtain ⟨n0, n1, n2, n3⟩ := ndCells hp22
 have hKl := TxR.len hnd22.keys
 have hbase : ∀ (w' : World) (v : Value), Ext w22 w' → (∀ {T3 c3 l3}, T3 = T2 → c3 = c2 → l3 = l ++ [(wl[i]).no] → ((v = .tuple #[.int .i64 0, .int .i64 0, .int .i64 0] ∧ Lnew = [] ∧ l3.Perm (m ++ p0)) ∨
    (∃ (root h : Nat) (pages : List Nat), v = .tuple #[.int .i64 (root : Nat), .int .i64 (h : Nat), .int .i64 0] ∧ Wf (Tr.P T3) h none none root pages Lnew ∧ (pages ++ l3).Perm (m ++ p0) ∧ 1 ≤ h ∧ h ≤ T1.height + 1) ∨
    (∃ a b : Int, v = .tuple #[.int .i64 a, .int .i64 b, .int .i64 3] ∧ ¬ T1.C.D.calm 60))) → UpR T c p0 Lnew w v w' := by
   intro w' v hx hd
   refine conv v w' ⟨T2, c2, m, l ++ [(wl[i]).no], ?_, ?_, hd (c3 := c2) rfl rfl rfl⟩
   · exact h22.ext hx
   · have := (hcu2.trans (CTU.ext T2 _ hx)).mono (j := 60) (by omega)
     simp only [List.append_nil] at this
     exact this
 refine Jn1 (fun b w' => (b = true ↔ (i = 0 ∧ n.keys = [])) ∧ w22 = w') (fun Z hZ => ⟨fun h0 => ⟨K, n1, hZ _ _ ⟨?_, rfl⟩⟩, fun h0 => hZ _ _ ⟨?_, rfl⟩⟩) ?_
 · have h0 : i = 0 := by
     have : ((i : Nat) : Int) = 0 := by simpa using h0
     omega
   rw [beq_iff_eq]
   constructor
   · intro h1
     exact ⟨h0, List.eq_nil_of_length_eq_zero (by omega)⟩
   · rintro ⟨_, h1⟩
     rw [h1] at hKl
     simp at hKl; omega
 · have h0 : i ≠ 0 := by
     have : ¬ ((i : Nat) : Int) = 0 := by simpa using h0
     omega
   exact ⟨fun h => (by cases h), fun h => absurd h.1 h0⟩
 rintro b25 _ ⟨hb25, rfl⟩
 refine ⟨fun hb => ?_, fun hb => ?_⟩
 · obtain ⟨h0, hk0⟩ := hb25.1 hb
   subst h0
   have hxd2 : Ext w22 w22.drew := ext_drew _
   obtain ⟨m0, m1, m2, m3⟩ := ndCells (hp22.ext hxd2)
   have hc22 := (h22.ext hxd2).cells.1
   rw [q1] at hc22
   have ht22 := (h22.ext hxd2).t.cells.2.2.2.2
   obtain ⟨t1, t2, t3, t4, t5, t6⟩ := Ctx.topInv (by simpa using I.ctx)
   have hvn := I.vn
   have hpp := I.pp
   have heq := I.eq
   have hacc := acc1 (no := (wl[0]).no) I.acc
   subst t2 t3 t4 t5 t6
   rw [List.nil_append, List.append_nil] at heq
   rw [List.append_nil] at hpp
   subst heq
   have hkids : n.leaf = false → ∃ x, n.kids = [x] ∧ 1 ≤ T2.height ∧ Wf T'.P (T2.height - 1) none none x q M ∧ 1 ≤ T2.height - 1 := by
     intro hl
     have e : wl.length - 0 = T2.height := by rw [p5]; omega
     rw [e] at hvn
     cases ht : T2.height with
     | zero => omega
     | succ t =>
       rw [ht] at hvn
       cases t with
       | zero =>
         have := hvn.1.leaf
         rw [hl] at this; cases this
       | succ t =>
         obtain ⟨v1, v2, v3, v4, v5⟩ := hvn
         rw [hk0] at v5
         generalize hkd : n.kids = kd at v5
         cases v5 with
         | one h => exact ⟨_, rfl, by omega, h.1, by omega⟩
   refine nx ⟨fun _ => False, id, _, m0, K, m1, V, m2, D, m3, _, rfl, id, _, hc22, _, rfl, id, _, ht22, (tree_last (hnd22.ext hxd2) T2.height (by omega) fun hl => by obtain ⟨x, a1, a2, _⟩ := hkids hl; exact ⟨x, a1, a2⟩).use ?_⟩
   rintro v w' ⟨rfl, hx2⟩
   have hX2 := hxd2.trans hx2
   cases hl : n.leaf with
   | true =>
     rw [if_pos rfl]
     have hvl := hvn.leaf
     rw [hl] at hvl
     have hlev : wl.length - 0 = 1 := of_decide_eq_true hvl.symm
     rw [hlev] at hvn
     obtain ⟨v1, v2, v3, v4⟩ := hvn
     subst v3
     refine ⟨_, _, _, rfl, hx2, hbase w' _ hX2 fun {T3 c3 l3} a1 a2 a3 => .inl ⟨rfl, ?_, ?_⟩⟩
     · rw [v4]; unfold Nd.pairs; rw [hk0]; rfl
     · subst a3
       rw [perm_c] at hacc hpp ⊢
       intro x
       have := hacc x
       have := hpp x
       simp only [List.count_append, List.count_cons, List.count_nil] at *
       omega
   | false =>
     rw [if_neg (by simp)]
     obtain ⟨x, a1, a2, a3, a4⟩ := hkids hl
     refine ⟨_, _, _, rfl, hx2, hbase w' _ hX2 fun {T3 c3 l3} b1 b2 b3 => .inr (.inl ⟨_, _, q, rfl, ?_, ?_, a4, ?_⟩)⟩
     · subst b1
       have ek : n.kids.getD 0 0 = x := by rw [a1]; rfl
       rw [ek, p1]; exact a3
     · subst b3
       rw [perm_c] at hacc hpp ⊢
       intro x
       have := hacc x
       have := hpp x
       simp only [List.count_append, List.count_cons, List.count_nil] at *
       omega
     · omega
 · have hnk : n.keys ≠ [] := fun e => by
     rcases Nat.eq_zero_or_pos i with h0 | h0
     · have := hb25.2 ⟨h0, e⟩
       rw [hb] at this; cases this
     · exact I.nk h0 e
   have hld2 : T2.C.D.ld ≤ 900000050 := by
     have := hcu2.to.ld
     rw [e5] at this
     omega
   have hrm2 : 2 ≤ roomT T2 := by
     have := hcu2.room
     have := I.ml
     omega
   have hcalm2 : ∀ j, j ≤ 10 → ¬ T2.C.D.calm j → ¬ T1.C.D.calm 60 := fun j hj hn hc => hn (hcu2.to.calm j (calm_mono hc (by omega)))
   have hfit : FitOk n := I.vn.fitOk (fun _ => by have := I.sz; omega) (fun _ => by have := I.sz; omega) fun _ => hnk
   refine Jn1 (fun p w' => p = (if i = 0 then none else some (Aw.add ((i - 1) * 6))) ∧ w22 = w') (fun Z hZ => ⟨fun h0 => ⟨Aw, hAw, ?_, hZ _ _ ⟨?_, rfl⟩⟩, fun h0 => hZ _ _ ⟨?_, rfl⟩⟩) ?_
   · have h0 : ((i : Nat) : Int) > 0 := of_decide_eq_true h0
     rw [wrapi (by omega) (by omega)]
     omega
   · have h0 : ((i : Nat) : Int) > 0 := of_decide_eq_true h0
     have e : ((i : Nat) : Int) - 1 = ((i - 1 : Nat) : Int) := by omega
     rw [wrapi (by omega) (by omega), if_neg (by omega), e, Int.toNat_natCast]
   · have h0 : ¬ ((i : Nat) : Int) > 0 := of_decide_eq_false h0
     rw [if_pos (by omega)]
   rintro _ _ ⟨rfl, rfl⟩
   refine ⟨_, n0, K, n1, V, n2, D, n3, ?_⟩
   by_cases h0 : i = 0
   · subst h0
     rw [if_pos rfl]
     have hlays := lays_root h22 hnd22 hfit (by omega) hrm2 (by omega)
     rw [q1] at hlays
     refine hlays.use ?_
     rintro _ w50 ⟨s52, e, rfl, hf⟩
     obtain ⟨T3, c3, ms, hc3, hcu3, hm3, hres⟩ := hf.cs
     have hcu23 := hcu2.trans hcu3
     simp only [List.append_nil] at hcu23
     have hcb3 : c3.cb = c.cb := by rw [hcu3.cb, q1]
     rcases hres with ⟨rfl, ks, hfo, hpc⟩ | ⟨rfl, hnc⟩
     · refine ⟨s52, _, _, 0, rfl, fun h => (by cases h), fun _ => ⟨fun _ => ?_, fun h => (by simp at h)⟩⟩
       obtain ⟨t1, t2, t3, t4, t5, t6⟩ := Ctx.topInv (by simpa using I.ctx)
       have hvn := I.vn
       have hpp := I.pp
       have heq := I.eq
       have hsz := I.sz
       have hacc := acc1 (no := (wl[0]).no) I.acc
       have hfq := I.fq
       subst t2 t3 t4 t5 t6
       rw [List.nil_append, List.append_nil] at heq
       rw [List.append_nil] at hpp hfq
       subst heq
       have hn16 : T2.n ≤ 1600 := h22.t.s.n2
       have hag : ∀ z ∈ q, T'.P z = T3.P z := fun z hz => by
         rw [← p1]
         exact ((hcu3.keep z (by rw [p2, hfq z hz]; rfl)).1).symm
       have hlen' : wl.length - 0 = (wl.length - 1) + 1 := by omega
       have hh3 : T3.height = wl.length := by rw [hcu3.height, p5]; omega
       rw [hlen'] at hvn
       have htwo : ∀ k0 x y, ks = [k0] → ms = [x, y] → keyOk k0 ∧ x < 1600 ∧ y < 1600 := fun k0 x y g1 g2 => by
         subst g1 g2
         have h80 : 232 < nsize n := by
           rcases hfo with ⟨_, z, e, _⟩ | ⟨h, _⟩
           · cases e
           · exact h
         obtain ⟨p', _, _, g3, _⟩ := hvn.fits (hvn.keys2 (by omega)) (fun _ => by omega) (fun _ => by omega) hfo hag
         have hx := (hcu3.mf x (by simp)).2
         have hy := (hcu3.mf y (by simp)).2
         exact ⟨g3 k0 (by simp), by omega, by omega⟩
       have htop := change_top hc3 hpc (fun _ => by omega) htwo (by have := hcu3.to.ld; omega) (by have := hcu3.room; have := hcu2.room; have := I.ml; omega) (by rw [hcu3.made, List.length_append]; omega)
       rw [hcb3] at htop
       refine htop.use ?_
       rintro v w56 hT
       rcases hT with ⟨x, g1, g2, rfl, g4, g5⟩ | ⟨k0, x, y, no, T4, c4, g1, g2, g4, g5, g6⟩
       · subst g1 g2
         refine ⟨_, _, _, rfl, conv _ _ ⟨T3, c3, m ++ [x], l ++ [(wl[0]).no], g4, ?_, .inr (.inl ⟨x, T3.height, x :: q, rfl, ?_, ?_, by omega, by omega⟩)⟩⟩
         · have := (hcu23.trans (CTU.ext T3 c3 g5)).mono (j := 60) (by omega)
           simp only [List.append_nil] at this
           exact this
         · rcases hfo with ⟨_, z, _, e, hz⟩ | ⟨_, x', y', _, e, _⟩
           · cases e
             rw [hh3, show wl.length = wl.length - 1 + 1 by omega]
             exact hvn.lay hnk hz hag
           · cases e
         · rw [perm_c] at hacc hpp ⊢
           intro z
           have := hacc z
           have := hpp z
           simp only [List.count_append, List.count_cons, List.count_nil] at *
           omega
       · subst g1 g2
         obtain ⟨a1, a2, a3⟩ := htwo k0 x y rfl rfl
         have hcu4 := hcu23.trans g5
         simp only [List.append_nil] at hcu4
         have hcu5 := hcu4.mono (j := 60) (by omega)
         rcases g6 with ⟨rfl, g7⟩ | ⟨rfl, g7⟩
         · have hf3 : ∀ z ∈ x :: y :: q, T3.P z = T4.P z := fun z hz => by
             refine ((g5.keep z ?_).1).symm
             rw [hcu3.f]
             simp only [List.mem_cons] at hz
             rcases hz with hz | hz | hz
             · simp [hz]
             · simp [hz]
             · rw [p2, hfq z hz]; simp
           obtain ⟨_, pages, b1, b2⟩ := root_two hvn hsz hfo hag g7 hf3 a2 a3
           refine ⟨_, _, _, rfl, conv _ _ ⟨T4, c4, m ++ [x, y] ++ [no], l ++ [(wl[0]).no], g4, hcu5, .inr (.inl ⟨no, T3.height + 1, pages, rfl, ?_, ?_, by omega, by omega⟩)⟩⟩
           · rw [hh3, show wl.length + 1 = wl.length - 1 + 2 by omega]; exact b1
           · rw [perm_c] at hacc hpp b2 ⊢
             intro z
             have := hacc z
             have := hpp z
             have := b2 z
             simp only [List.count_append, List.count_cons, List.count_nil] at *
             omega
         · refine ⟨_, _, _, rfl, conv _ _ ⟨T4, c4, m ++ [x, y] ++ [no], l ++ [(wl[0]).no], g4, hcu5, .inr (.inr ⟨_, _, rfl, fun hc => g7 (hcu3.to.calm 1 (hcu2.to.calm 3 (calm_mono hc (by omega))))⟩)⟩⟩
     · refine ⟨s52, _, _, 3, rfl, fun _ => conv _ _ ⟨T3, c3, m ++ ms, l ++ [(wl[0]).no], hc3, hcu23.mono (by omega), .inr (.inr ⟨0, 0, rfl, hcalm2 2 (by omega) hnc⟩)⟩, fun h => (by cases h)⟩
   · rw [if_neg h0]
     have hi1 : i - 1 < wl.length := by omega
     obtain ⟨Aw2, hAw2, _, _, _, hu⟩ := hway22.at hi1
     rw [hAw] at hAw2
     obtain rfl := Option.some.inj hAw2
     obtain ⟨u, hue⟩ : ∃ u, u = wl[i - 1] := ⟨_, rfl⟩
     rw [← hue] at hu
     have hst : (wl.take i).map Sp.st = (wl.take (i - 1)).map Sp.st ++ [u.st] := by
       have : wl.take i = wl.take (i - 1) ++ [wl[i - 1]] := by
         have e : i - 1 + 1 = i := by omega
         rw [← List.take_succ_eq_append_getElem hi1, e]
       rw [this, List.map_append, hue]; rfl
     obtain ⟨lo0, hi0, pg0, A0, B0, ps, k1, k2, k3, k4, k5, k6, k7, k8, k9⟩ := Ctx.up I.ctx hst I.vn I.cg.t.sizes I.sz
     have hlev : wl.length - i + 1 = wl.length - (i - 1) := by omega
     rw [hlev] at k1 k8 k9
     have hus := (I.cg.t.pn _ _ k3).2.is
     have huf := hus.2.1.few (by omega)
     have hfq := I.fq
     have hlays := lays_up h22 hnd22 hu hfit.1 (by have := I.sz; omega) (fun _ => hfit) (fun hlow => by
       obtain ⟨o, no, rest, b1, b2, b3, b4, b5, b6, _⟩ := k9 hlow
       exact ⟨o, no, b1, by rw [p1]; exact b2, b3, b4, b5, b6⟩) (by omega) (by omega) hrm2 (by omega) (by omega)
     rw [q1] at hlays
     refine hlays.use ?_
     rintro v w50 hL
     have hkk : 0 < u.n.keys.length := List.length_pos_iff.2 k6
     have hn16 : T2.n ≤ 1600 := h22.t.s.n2
     have hkeep : ∀ {T3 : Tr} {c3 : Cg} {ms ls : List Nat} {w' : World} {kk : Nat}, CTU T2 T3 c2 c3 ms ls w22 w' kk → ∀ x, T'.f x = true → T'.P x = T3.P x := fun hcu x hx => by
       rw [← p1]
       exact ((hcu.keep x (by rw [p2, hx]; rfl)).1).symm
     have hall : (∃ (T3 : Tr) (c3 : Cg) (ms ls : List Nat) (s : Sl) (a b : Int), v = .tuple #[.slice s.a s.len s.cap, .int .i64 a, .int .i64 b, .int .i64 3] ∧ CgAt w50 T3 c3 ∧ CTU T2 T3 c2 c3 ms ls w22 w50 4 ∧ ¬ T2.C.D.calm 4) ∨
         (∃ (T3 : Tr) (c3 : Cg) (ms ls rest : List Nat) (s : Sl) (frm to' : Nat) (ks : List Key) (q2 : List Nat) (M2 : List KV), v = .tuple #[.slice s.a s.len s.cap, .int .i64 (frm : Nat), .int .i64 (to' : Nat), .int .i64 0] ∧ CgAt w50 T3 c3 ∧ CTU T2 T3 c2 c3 ms ls w22 w50 4 ∧ ms.length ≤ 2 ∧ ls.length ≤ 1 ∧ PcAt (fun q => ¬ T3.M q) w50 s ks ms ∧
           VN T3.P (wl.length - (i - 1)) (changedN u.n frm to' ks ms) lo0 hi0 q2 M2 ∧ A0 ++ (M2 ++ B0) = A ++ (M ++ B) ∧ q2.Perm (ms ++ (rest ++ q)) ∧ ps.Perm (ls ++ rest) ∧ nsize (changedN u.n frm to' ks ms) ≤ nsize u.n + 27 ∧ u.n.keys.length ≤ (changedN u.n frm to' ks ms).keys.length + 1 ∧
           frm ≤ u.n.keys.length ∧ 1 ≤ to' ∧ to' ≤ u.n.kids.length) := by
       rcases hL with ⟨h80, s, e, rfl, hf⟩ | ⟨hlow, T3, c3, rfl, g1, g2, g3⟩ | ⟨hlow, o, no, T3a, c3a, w1a, s, e, ho1, hPo, hcua, rfl, hf⟩
       · obtain ⟨T3, c3, ms, hc3, hcu3, hm3, hres⟩ := hf.cs
         rcases hres with ⟨rfl, ks, hfo, hpc⟩ | ⟨rfl, hnc⟩
         · obtain ⟨q2, M2, b1, b2, b3, b4, b5⟩ := k8 h80 T3.P ks ms hfo (fun x hx => hkeep hcu3 x (hfq x (by
             rw [k2]
             simp only [List.mem_append, List.mem_cons] at hx ⊢
             rcases hx with hx | hx
             · exact .inr (.inr (.inl hx))
             · exact .inl hx))) (fun x hx => by have := (hcu3.mf x hx).2; omega)
           exact .inr ⟨T3, c3, ms, [], ps, s, u.kid, u.kid + 1, ks, q2, M2, rfl, hc3, hcu3.mono (by omega), hm3, Nat.zero_le _, hpc, b1, b2, b3, List.Perm.refl _, b4, b5, by omega, by omega, by omega⟩
         · exact .inl ⟨T3, c3, ms, [], s, _, _, rfl, hc3, hcu3.mono (by omega), fun hc => hnc (calm_mono hc (by omega))⟩
       · exact .inl ⟨T3, c3, [], [], nil3, 0, 0, rfl, g1, g2.mono (by omega), fun hc => g3 (calm_mono hc (by omega))⟩
       · obtain ⟨o2, no2, rest, b1, b2, b3, b4, b5, b6, b7, b8⟩ := k9 hlow
         rw [b1] at ho1
         obtain rfl := Option.some.inj ho1
         rw [p1, b2] at hPo
         obtain rfl := Option.some.inj hPo
         obtain ⟨T3, c3, ms, hc3, hcu3, hm3, hres⟩ := hf.cs
         have hcu4 := hcua.trans hcu3
         simp only [List.nil_append, List.append_nil] at hcu4
         rcases hres with ⟨rfl, ks, hfo, hpc⟩ | ⟨rfl, hnc⟩
         · obtain ⟨q2, M2, d1, d2, d3, d4, d5⟩ := b8 T3.P ks ms hfo (fun x hx => hkeep hcu4 x (hfq x (by
             rw [k2]
             simp only [List.mem_append, List.mem_cons] at hx ⊢
             rcases hx with hx | hx
             · exact .inr (.inr (.inl (b7.mem_iff.2 (List.mem_cons_of_mem _ hx))))
             · exact .inl hx))) (fun x hx => by have := (hcu4.mf x hx).2; omega)
           refine .inr ⟨T3, c3, ms, [no2], rest, s, u.kid - 1, u.kid - 1 + 2, ks, q2, M2, rfl, hc3, hcu4, hm3, Nat.le_refl _, hpc, d1, d2, d3, b7, d4, d5, by omega, by omega, ?_⟩
           rcases Nat.eq_zero_or_pos u.kid with h5 | h5 <;> omega
         · exact .inl ⟨T3, c3, ms, [no2], s, _, _, rfl, hc3, hcu4, fun hc => hnc (hcua.to.calm 2 hc)⟩
     clear hL
     rcases hall with ⟨T3, c3, ms, ls, s52, a, b, rfl, hc3, hcu3, hnc⟩ | ⟨T3, c3, ms, ls, rest, s52, frm, to', ks, q2, M2, rfl, hc3, hcu3, hm3, hl3, hpc, v1, v2, v3, v4, v5, v6, v7, v8, v9⟩
     · exact ⟨s52, _, _, 3, rfl, fun _ => conv _ _ ⟨T3, c3, _, _, hc3, (hcu2.trans hcu3).mono (by omega), .inr (.inr ⟨0, 0, rfl, hcalm2 4 (by omega) hnc⟩)⟩, fun h => (by cases h)⟩
     · refine ⟨s52, _, _, 0, rfl, fun h => (by cases h), fun _ => ⟨fun h => ?_, fun _ => ?_⟩⟩
       · have : ((i : Nat) : Int) = 0 := by simpa using h
         omega
       have hu50 := hu.to hcu3.to
       refine ⟨_, rfl, _, hu50.c1, u.K, hu50.c2, u.V, hu50.c3, u.D, hu50.c4, (tree_changed hu50.nd hpc (fr := frm) (to := to') v7 (by omega) v8 v9 (by omega) (by omega) (by omega)).use ?_⟩
       rintro _ w66 ⟨K2, V2, D2, rfl, hnd66, hx66⟩
       have hp50 := hp22.chg hcu3.to.chg (h22.t.eN p4)
       have hp66 := hp50.ext hx66
       refine ⟨_, K2, V2, D2, rfl, hp66.storeOk rfl plain4, rfl, nxPut hp66 (us := ndL (changedN u.n frm to' ks ms) K2 V2 D2) rfl rfl fun w72 hp72 hc72 hs72 => ⟨⟨i - 1, T3, c3, m ++ ms, l ++ [(wl[i]).no] ++ ls, changedN u.n frm to' ks ms, K2, V2, D2, lo0, hi0, pg0, A0, B0, q2, M2, ps ++ ((wl[i]).no :: r), ?_, ?_⟩, ?_⟩⟩
       · rw [wrapi (by omega) (by omega)]; omega
       · have nv3 : T3.E nv := by rw [hcu3.E]; exact p4
         have hnvM : T3.M nv := .inr (.inr (.inr (.inl nv3)))
         have hcu66 := (hcu2.trans hcu3).trans (CTU.ext T3 c3 hx66)
         simp only [List.append_nil] at hcu66
         have hto72 : TTo T1 T3 w1 w72 (4 * (wl.length - 1 - i) + 4 + 0) := hcu66.to.step (E := T3.E) (G := T3.G) hc72 (fun q e hl => by omega) (fun q hq => .inl hq) fun q hq => .inl hq
         have hfa : ∀ x, T'.f x = true → T3.f x = true := fun x hx => by rw [hcu3.f, p2, hx]; rfl
         have hway50 := hway22.to hcu3.to
         refine ⟨hi1, (hc3.ext hx66).chgE hc72 fun q e => .inl (by rw [e]; exact nv3), { hcu66.mono (j := 4 * (wl.length - 1 - (i - 1))) (by omega) with to := hto72.mono (by omega) }, ?_, ?_, hp72, ?_, ?_, k1.agree fun x hx => hkeep hcu3 x (hfq x (by rw [k2]; simp [hx])), v1, by rw [v2]; exact I.eq, ?_, acc2 (acc1 I.acc) v3 v4, by omega, fun h1 e => ?_, fun x hx => ?_⟩
         · rw [List.length_append]; have := I.ml; omega
         · rw [List.length_append, List.length_append, List.length_singleton]; have := I.ll; omega
         · refine (NdAt.chg hnd66 hc72 fun q hq e => ?_).weak fun q _ hq hm => ?_
           · subst e
             rcases hq with hq | hq
             · exact hq hnvM
             · have := hp50.lt; omega
           · rcases hq with hq | hq
             · exact hq hm
             · have := hc3.t.lt hm; omega
         · refine ⟨(hway50.own.ext hx66).chg hc72 fun q hq e => hway50.bl q hq (by rw [e]; exact hnvM), hway50.bl, fun x hx => NdAt.chg ((hway50.nd x hx).ext hx66) hc72 fun q hq e => hq (by rw [e]; exact hnvM)⟩
         · have this : p0.Perm ((wl[i]'hix).no :: (r ++ pg)) := I.pp
           rw [k2] at this
           rw [← hue]
           exact acc3 this
         · have h2 := k7 (fun e2 => by
             have := congrArg List.length e2
             rw [List.length_map, List.length_take, List.length_nil] at this
             omega)
           rw [e, List.length_nil] at v6
           omega
         · rcases List.mem_append.1 hx with hx | hx
           · have := v3.mem_iff.1 hx
             rcases List.mem_append.1 this with hx | hx
             · rw [hcu3.f]; simp [hx]
             · rcases List.mem_append.1 hx with hx | hx
               · refine hfa x (hfq x ?_)
                 rw [k2]
                 have : x ∈ ps := v4.mem_iff.2 (List.mem_append_right _ hx)
                 simp [this]
               · exact hfa x (hfq x (by simp [hx]))
           · exact hfa x (hfq x (by rw [k2]; simp [hx]))
       · rw [wrapi (by omega) (by omega)]
         show (((i : Nat) : Int) - 1 + 1).toNat < (((i : Nat) : Int) + 1).toNat
         omega
end Go.Proofs.YtplieiecebljmaaGreat
namespace Go.Proofs.YtplieiecebljmaaGreat
open Go Gx
theorem change_up_nil {w : World} {T : Tr} {c : Cg} {Lnew : List KV} {n : Nd} {K V D ws : Sl} (hws : ws.len = 0) (h : CgAt w T c) (hn : NdAt (fun q => ¬ T.M q) w n K V D) (hld : T.C.D.ld ≤ 900000000) (hroom : 2 ≤ roomT T) (hmd : c.made.length ≤ 100) (hle : c.left = [])
   (hleaf : LeafOk n) (hk : n.keys ≠ []) (hsz : nsize n ≤ 232) (heq : n.pairs = Lnew) :
   Ret Tryz.prog F.tree_change_up #[.pointer (some ⟨c.cb, 0, none⟩), .slice ws.a ws.len ws.cap, ndV n K V D] w (UpR T c [] Lnew w) := by
 refine W.tree_change_up_ok (some ⟨c.cb, 0, none⟩) ws n.leaf K V D w _ ?_
 (delta W.tree_change_up r3 nA r1 z1 wI Br bd r2 st c10 c17 c11 c4; dsimp only)
 refine nxVar (vs := ndL n K V D) rfl fun w1 hp1 hx1 hs1 => ?_
 obtain ⟨c0, c1, c2, c3⟩ := ndCells hp1
 refine ⟨_, c0, K, c1, V, c2, D, c3, nxVar (vs := [.bool false, .slice none 0 0, .slice none 0 0, .slice none 0 0]) rfl fun w6 hp6 hx6 hs6 => ⟨hp6.storeOk rfl plain4, rfl, nxPut hp6 (us := ndL n K V D) rfl rfl fun w7 hp7 hc7 hs7 => ?_⟩⟩
 have hx7 : Ext w w7 := hx1.trans (Ext.of_chg hx6 hc7 (Nat.le_refl _))
 refine ⟨fun n10 w' => n10 = -1 ∧ w7 = w', fun _ _ => 0, ⟨by rw [hws]; decide, rfl⟩, ?_⟩
 rintro _ _ ⟨rfl, rfl⟩
 refine ⟨fun h => by simp at h, fun _ => ?_⟩
 obtain ⟨d0, d1, d2, d3⟩ := ndCells hp7
 refine ⟨_, d0, K, d1, V, d2, D, d3, (change_one (h.ext hx7) (by omega) (by omega) (by omega) (hn.ext hx7) (.inl hleaf) hsz).use ?_⟩
 intro v w' hv
 obtain ⟨s, e, rfl⟩ := hv.out
 obtain ⟨T', c', m, hc', hcu, hm, hres⟩ := (hv.base hx7).cs
 rcases hres with ⟨rfl, ks, hfo, hpc⟩ | ⟨rfl, hnc⟩
 · refine ⟨s, 0, rfl, fun h => (by cases h), fun _ => ?_⟩
   rcases hfo with ⟨_, x, rfl, rfl, hx⟩ | ⟨hbig, _⟩
   · rcases hpc with ⟨b, x', rfl, _, e, hv, _⟩ | ⟨b, x', y', k', t', rfl, e, _⟩
     · obtain rfl : x = x' := by simpa using e
       refine ⟨_, rfl, ⟨by decide, by show (0 : Int) < ((1 : Nat) : Int); decide⟩, _, by rw [add_mk, add_mk]; exact hv.cell, T', c', [x], [], hc', hcu.mono (by omega), .inr (.inl ⟨x, 1, [x], rfl, ⟨n, hx, hleaf, fun k hk => ⟨fun _ e => (by cases e), fun _ e => (by cases e)⟩, hk, rfl, heq.symm⟩, List.Perm.refl _, Nat.le_refl _, by omega⟩)⟩
     · cases e
   · omega
 · exact ⟨s, 3, rfl, fun _ => ⟨T', c', m, [], hc', hcu.mono (by omega), .inr (.inr ⟨0, 0, rfl, fun hc => hnc (calm_mono hc (by omega))⟩)⟩, fun h => (by cases h)⟩
end Go.Proofs.YtplieiecebljmaaGreat
namespace Go.Proofs.YtplieiecebljmaaGreat
open Go Gx
def Tr.wR (T : Tr) (r h : Nat) : Tr := { T with root := r, height := h }
theorem TrAt.setR {w w' : World} {T : Tr} {r h : Nat} (ht : TrAt w T) (hv : Var w' T.tb (trL (T.wR r h)) Ty.tree_Tree) (hc : Chg (fun q => q = T.tb) w w') (hr : r < T.n) (hh : h ≤ 12) : TrAt w' (T.wR r h) ∧ TTo T (T.wR r h) w w' 0 :=
 ⟨⟨hv, ht.s.chg hc fun q hq e => ht.dt (e ▸ hq), ht.ca.chg hc fun q e => .inl e, ht.dt, ht.de, ht.dg, ht.n, ⟨hr, hh, ht.num.2.2⟩, ht.pn⟩,
   ⟨rfl, rfl, rfl, rfl, rfl, rfl, rfl, rfl, rfl, rfl, Nat.le_refl _, fun _ h => h, hc.mono fun q _ e => .inr (.inl e), fun q h => .inl h, fun q h => .inl h⟩⟩
def TreeOk (T : Tr) (pages : List Nat) (L : List KV) : Prop := (T.height = 0 ∧ T.root = 0 ∧ pages = [] ∧ L = []) ∨ Wf T.P T.height none none T.root pages L
def DoesR (T : Tr) (p0 : List Nat) (Lnew : List KV) (w : World) (v : Value) (w' : World) : Prop :=
 ∃ T' : Tr, TrAt w' T' ∧ TTo T T' w w' 60 ∧ T'.E = T.E ∧ T'.G = T.G ∧
   ((v = .int .i64 2 ∧ roomT T < 2 * T.height + 3 ∧ T' = T) ∨
    (v = .int .i64 0 ∧ 2 * T.height + 3 ≤ roomT T ∧ (∃ pages, TreeOk T' pages Lnew ∧ pages.Nodup ∧ ∀ no, T'.f no = true ↔ (no ∈ pages ∨ (T.f no = true ∧ no ∉ p0))) ∧ ∀ no, T.g no = true → T'.P no = T.P no ∧ T'.C.view no = T.C.view no) ∨
    (v = .int .i64 3 ∧ ¬ T.C.D.calm 60 ∧ T'.root = T.root ∧ T'.height = T.height ∧ T'.f = T.f ∧ ∀ no, (T.f no || T.g no) = true → T'.P no = T.P no ∧ T'.C.view no = T.C.view no))
theorem nodup_of_count {l : List Nat} (h : ∀ x, l.count x ≤ 1) : l.Nodup := List.nodup_iff_count.2 h
theorem tree_does {w : World} {T : Tr} {s : Sl} {p0 : List Nat} {Lnew : List KV} {n : Nd} {K V D : Sl} (h : TrAt w T) (hld : T.C.D.ld ≤ 900000000) (hh : T.height < 12) (hp0 : p0.Nodup) (hf0 : ∀ x ∈ p0, T.f x = true) (hlp : p0.length ≤ 5000)
   (hup : ∀ (E1 G1 : Nat → Prop) (w1 : World) (c1 : Cg), CgAt w1 (T.wO E1 G1) c1 → TTo T (T.wO E1 G1) w w1 0 → 2 * T.height + 3 ≤ roomT T → c1.made = [] → c1.left = [] → Ret Tryz.prog F.tree_change_up #[.pointer (some ⟨c1.cb, 0, none⟩), .slice s.a s.len s.cap, ndV n K V D] w1 (UpR (T.wO E1 G1) c1 p0 Lnew w1)) :
   Ret Tryz.prog F.tree_Tree_does #[.pointer (some ⟨T.tb, 0, none⟩), .slice s.a s.len s.cap, ndV n K V D] w (DoesR T p0 Lnew w) := by
 have hn2 := h.s.n2
 refine W.tree_Tree_does_ok (some ⟨T.tb, 0, none⟩) s n.leaf K V D w _ ?_
 (delta W.tree_Tree_does r2 c2 Br wI st nA r3 r1 c10 c1; dsimp only)
 refine nxVar (vs := ndL n K V D) rfl fun w1 hp1 hx1 hs1 => nxVar (vs := [.int .i64 0]) rfl fun w2 he2 hx2 hs2 => nx ?_
 have hxd : Ext w2 w2.drew := ext_drew _
 obtain ⟨w3, hw3⟩ : ∃ w3, w3 = w2.drew := ⟨_, rfl⟩
 rw [← hw3] at hxd ⊢
 have hX3 := (hx1.trans hx2).trans hxd
 have h3 := h.ext hX3
 obtain ⟨ev, hev⟩ : ∃ ev, ev = w1.heap.size := ⟨_, rfl⟩
 rw [← hev] at he2 ⊢
 refine ⟨fun _ => False, _, rfl, id, _, h3.cells.2.1, _, rfl, id, _, h3.cells.2.2.2.2, (space_Room h3.s).use ?_⟩
 rintro _ w9 ⟨rfl, hx9⟩
 have hX9 := hX3.trans hx9
 have he9 := (he2.ext hxd).ext hx9
 have hrm : ((T.n : Int) - ones (fun i => T.f i || T.g i) T.n) = (roomT T : Nat) := by
   have := ones_le (fun i => T.f i || T.g i) T.n
   unfold roomT; omega
 have hw2 : IntKind.wrap .i64 (IntKind.wrap .i64 (2 * ((T.height : Nat) : Int)) + 3) = ((2 * T.height + 3 : Nat) : Int) := by
   rw [wrapi (n := 2 * ((T.height : Nat) : Int)) (by omega) (by omega), wrapi (by omega) (by omega)]; omega
 rw [hrm, hw2]
 refine ⟨_, rfl, hx9, fun hb => ?_, fun hb => ?_⟩
 · have hb : ((roomT T : Nat) : Int) < ((2 * T.height + 3 : Nat) : Int) := of_decide_eq_true hb
   obtain ⟨g1, g2⟩ := setOk he9 (i := 0) (by simp)
   have hcs := chgSet w9 ev 0 (.int .i64 2)
   have hv := varSet he9 (i := 0) (.int .i64 2)
   have hxf := Ext.of_chg hX9 hcs (by omega)
   exact ⟨g1, g2, nx ⟨2, hv.cell, T, h.ext hxf, (TTo.ext T hxf).mono (by omega), rfl, rfl, .inl ⟨rfl, by omega, rfl⟩⟩⟩
 have hroom : 2 * T.height + 3 ≤ roomT T := by
   have : ¬ ((roomT T : Nat) : Int) < ((2 * T.height + 3 : Nat) : Int) := of_decide_eq_false hb
   omega
 refine nxVar (vs := [.pointer (some ⟨T.tb, 0, none⟩), .slice none 0 0, .slice none 0 0]) rfl fun w14 hc14 hx14 hs14 => nxVar (vs := [.pointer none]) rfl fun w15 hq15 hx15 hs15 => ?_
 obtain ⟨cb, hcb⟩ : ∃ cb, cb = w9.heap.size := ⟨_, rfl⟩
 obtain ⟨pv, hpv⟩ : ∃ pv, pv = w14.heap.size := ⟨_, rfl⟩
 rw [← hcb] at hc14 ⊢
 rw [← hpv] at hq15 ⊢
 obtain ⟨g1, g2⟩ := setOk hq15 (i := 0) (by simp)
 have hcs16 := chgSet w15 pv 0 (.pointer (some ⟨cb, 0, none⟩))
 have hq16 := varSet hq15 (i := 0) (.pointer (some ⟨cb, 0, none⟩))
 refine ⟨g1, g2, nx ?_⟩
 obtain ⟨w16, hw16⟩ : ∃ w16, w16 = w15.setCell ⟨pv, 0, none⟩ (.pointer (some ⟨cb, 0, none⟩)) := ⟨_, rfl⟩
 rw [← hw16] at hcs16 hq16 ⊢
 have hz9 := hX9.size
 have hz16 := hcs16.size
 have hx916 : Ext w9 w16 := Ext.of_chg (hx14.trans hx15) hcs16 (by omega)
 have hX16 := hX9.trans hx916
 have he16 := he9.ext hx916
 have hc16 := (hc14.ext hx15).chg hcs16 (by omega)
 have hp16 := ((hp1.ext hx2).ext hxd).ext (hx9.trans hx916)
 obtain ⟨E1, hE1⟩ : ∃ E1, E1 = fun q => T.E q ∨ q = ev := ⟨_, rfl⟩
 obtain ⟨G1, hG1⟩ : ∃ G1, G1 = fun q => T.G q ∨ q = cb := ⟨_, rfl⟩
 have hEo : ∀ q, E1 q → T.E q ∨ q = ev := fun q hq => by rw [hE1] at hq; exact hq
 have hGo : ∀ q, G1 q → T.G q ∨ q = cb := fun q hq => by rw [hG1] at hq; exact hq
 have hEi : ∀ q, T.E q → E1 q := fun q hq => by rw [hE1]; exact .inl hq
 have hGi : ∀ q, T.G q → G1 q := fun q hq => by rw [hG1]; exact .inl hq
 have hEe : E1 ev := by rw [hE1]; exact .inr rfl
 have hGc : G1 cb := by rw [hG1]; exact .inr rfl
 have hevl := he16.lt
 have hcbl := hc16.lt
 have hT16 : TrAt w16 (T.wO E1 G1) := h.grow (W := fun _ => False) hX16 (fun _ h => h.elim) (fun q hq => (hEo q hq).imp id fun e => .inr ⟨by omega, by omega⟩) (fun q hq => .inr ((hGo q hq).imp id fun e => ⟨by omega, by omega⟩)) fun q hq hg => by
   rcases hEo q hq with h1 | h1 <;> rcases hGo q hg with h2 | h2
   · exact (h.de q h1).2.2 h2
   · have := h.lt (q := q) (.inr (.inr (.inr (.inl h1)))); omega
   · have := h.lt (q := q) (.inr (.inr (.inr (.inr h2)))); omega
   · have := he9.lt; omega
 have hto16 : TTo T (T.wO E1 G1) w w16 0 := (TTo.refl T w).step (W := fun _ => False) hX16 (fun _ h => h.elim) (fun q hq => (hEo q hq).imp id fun e => .inr (by omega)) fun q hq => (hGo q hq).imp id fun e => by omega
 have hcg : CgAt w16 (T.wO E1 G1) ⟨cb, nil3, nil3, [], []⟩ := ⟨hT16, hc16, OwnS.none _ _ _, OwnS.none _ _ _, hGc, fun q hq => (ownB_none q hq).elim, fun q hq => (ownB_none q hq).elim⟩
 have hcall := hup E1 G1 w16 _ hcg hto16 hroom rfl rfl
 obtain ⟨c0, c1, c2, c3⟩ := ndCells hp16
 refine ⟨_, hq16.cell, _, c0, K, c1, V, c2, D, c3, hcall.use ?_⟩
 rintro v w22 ⟨T1, cc, m, l, hcc, hcu, hres⟩
 have hE1' : T1.E ev := by rw [hcu.E]; exact hEe
 have he22 := he16.chg hcu.to.chg (hT16.eN hEe)
 have hpn : ¬ (T.wO E1 G1).N pv := by
   have hq1 : cb < pv := by rw [hcb, hpv]; omega
   rintro (hq | hq | hq | hq)
   · have := h.lt (q := pv) (.inl hq); omega
   · have := h.lt (q := pv) (.inr (.inl hq)); omega
   · have := h.lt (q := pv) (.inr (.inr (.inl hq))); omega
   · rcases hGo pv hq with h1 | h1
     · have := h.lt (q := pv) (.inr (.inr (.inr (.inr h1)))); omega
     · omega
 have hq22 := hq16.chg hcu.to.chg hpn
 have hcb1 : cc.cb = cb := hcu.cb
 have htb1 : T1.tb = T.tb := hcu.to.tb
 have hmade : cc.made = m := hcu.made
 have hleft : cc.left = l := hcu.left
 have hpe : pv ≠ ev := by have := he9.lt; omega
 have hto22 : TTo T T1 w w22 60 := (hto16.trans hcu.to).mono (by omega)
 -- the own blocks are forgotten
 have fin : ∀ (w' : World) (T' : Tr), TrAt w' T' → TTo T T' w w' 60 → T'.E = E1 → (∀ q, T.G q → T'.G q) → TrAt w' (T'.wO T.E T.G) ∧ TTo T (T'.wO T.E T.G) w w' 60 := by
   intro w' T' hc ht hE hG
   exact ⟨hc.grow (W := fun _ => False) (Chg.refl _ _) (fun _ h => h.elim) (fun q hq => .inl (by rw [hE]; exact hEi q hq)) (fun q hq => .inr (.inl (hG q hq))) fun q hq => (h.de q hq).2.2,
     ht.step (W := fun _ => False) (Chg.refl _ _) (fun _ h => h.elim) (fun q hq => .inl (by rw [hE]; exact hEi q hq)) fun q hq => .inl (hG q hq)⟩
 have hGG : ∀ q, T.G q → T1.G q := fun q hq => hcu.G q (hGi q hq)
 have hw1 := (hx1).size
 have hsetE : ∀ (w0 : World) (T' : Tr) (c' : Cg) (x : Int), CgAt w0 T' c' → TTo T T' w w0 60 → T'.E ev → CgAt (w0.setCell ⟨ev, 0, none⟩ (.int .i64 x)) T' c' ∧ TTo T T' w (w0.setCell ⟨ev, 0, none⟩ (.int .i64 x)) 60 := fun w0 T' c' x hc ht he =>
   ⟨hc.chgE (chgSet w0 ev 0 _) fun q e => .inl (by rw [e]; exact he), ht.step (E := T'.E) (G := T'.G) (chgSet w0 ev 0 _) (fun q e hl => by omega) (fun q hq => .inl hq) fun q hq => .inl hq⟩
 have hmn : m.length ≤ 1600 := by
   have := hcu.room
   have : roomT (T.wO E1 G1) ≤ T.n := by unfold roomT; exact Nat.sub_le _ _
   omega
 have hok3 : (∃ a b : Int, v = .tuple #[.int .i64 a, .int .i64 b, .int .i64 3] ∧ ¬ T.C.D.calm 60) ∨ (∃ (root hh : Nat) (pages : List Nat), v = .tuple #[.int .i64 (root : Nat), .int .i64 (hh : Nat), .int .i64 0] ∧ ((hh = 0 ∧ root = 0 ∧ pages = [] ∧ Lnew = []) ∨ Wf T1.P hh none none root pages Lnew) ∧ (pages ++ l).Perm (m ++ p0) ∧ hh ≤ 12) := by
   rcases hres with ⟨rfl, h1, h2⟩ | ⟨root, hh, pages, rfl, h1, h2, h3, h4⟩ | ⟨a, b, rfl, hnc⟩
   · exact .inr ⟨0, 0, [], rfl, .inl ⟨rfl, rfl, rfl, h1⟩, h2, by omega⟩
   · have h4 : hh ≤ T.height + 1 := h4
     exact .inr ⟨root, hh, pages, rfl, .inr h1, h2, by omega⟩
   · exact .inl ⟨a, b, rfl, hnc⟩
 rcases hok3 with ⟨a, b, rfl, hnc⟩ | ⟨root, hgt, pages, rfl, hwf, hperm, h12⟩
 · -- an error: what was made is given back
   obtain ⟨g1, g2⟩ := setOk he22 (i := 0) (by simp)
   have he27 := varSet he22 (i := 0) (.int .i64 3)
   obtain ⟨hc27, ht27⟩ := hsetE w22 T1 cc 3 hcc hto22 hE1'
   have hq27 := hq22.chg (chgSet w22 ev 0 (.int .i64 3)) hpe
   refine ⟨a, b, 3, rfl, g1, g2, nx ⟨3, he27.cell, fun _ => ⟨3, he27.cell, ?_⟩, fun hx => (by cases hx)⟩⟩
   obtain ⟨g3, g4⟩ := setOk he27 (i := 0) (by simp)
   have he30 := varSet he27 (i := 0) (.int .i64 3)
   obtain ⟨hc30, ht30⟩ := hsetE _ T1 cc 3 hc27 ht27 hE1'
   have hq30 := hq27.chg (chgSet _ ev 0 (.int .i64 3)) hpe
   refine ⟨g3, g4, nx (W.tree_Tree_does_1_dfr ⟨ev, 0, none⟩ ⟨pv, 0, none⟩ _ _ ?_)⟩
   generalize hw30 : (w22.setCell ⟨ev, 0, none⟩ (.int .i64 3)).setCell ⟨ev, 0, none⟩ (.int .i64 3) = w30 at he30 hc30 hq30 ht30 ⊢
   (delta W.tree_Tree_does_1 r2 Br r1 c1; dsimp only)
   have hxd2 : Ext w30 w30.drew := ext_drew _
   have hcd := hc30.ext hxd2
   have hgv := change_gives hcd hcd.ma.src (fun q hq => (hcd.gm q hq).1) (l := cc.made) (fun x hx => by rw [hmade] at hx; rw [hcu.f]; simp [hx]) (by rw [hmade]; exact hcu.nd) (by rw [hmade]; omega)
   rw [hcb1] at hgv
   have hcdc := hcd.cells.2.1
   rw [hcb1] at hcdc
   refine ⟨3, he30.cell, fun _ => nx ⟨id, _, hq30.drew.cell, id, _, hq30.drew.cell, _, rfl, id, cc.ma, hcdc, hgv.use ?_⟩, fun hx => (by cases hx)⟩
   rintro _ w7 ⟨rfl, T2, hc2, hg⟩
   rw [hmade] at hg
   have he7 := (he30.ext hxd2).chg hg.to.chg (hcd.t.eN hE1')
   have ht7 : TTo T T2 w w7 60 := ((ht30.trans (TTo.ext T1 hxd2)).trans hg.to).mono (by omega)
   obtain ⟨f1, f2⟩ := fin w7 T2 hc2.t ht7 (by rw [hg.E]; exact hcu.E) fun q hq => by rw [hg.G]; exact hGG q hq
   refine ⟨rfl, 3, he7.cell, _, f1, f2, rfl, rfl, .inr (.inr ⟨rfl, hnc, hg.root.trans hcu.root, hg.height.trans hcu.height, ?_, fun no hno => ?_⟩)⟩
   · funext no
     show T2.f no = T.f no
     rw [hg.f, hcu.f]
     by_cases hm : no ∈ m
     · have := (hcu.mf no hm).1
       have e : (T.wO E1 G1).f no = T.f no := rfl
       rw [e] at this ⊢
       cases hfn : T.f no
       · simp [hm]
       · rw [hfn] at this; cases this
     · simp [hm]; rfl
   · have hm : no ∉ m := fun hm => by
       have := (hcu.mf no hm).1
       have e : ((T.wO E1 G1).f no || (T.wO E1 G1).g no) = (T.f no || T.g no) := rfl
       rw [e, hno] at this; cases this
     have h1 := hg.keep no (.inl hm)
     have h2 := hcu.keep no hno
     exact ⟨h1.1.trans h2.1, h1.2.trans h2.2⟩
 · -- done: what was left is given back, and the root is noted
   have hcnt : ∀ x, pages.count x + l.count x = m.count x + p0.count x := fun x => by
     have := perm_c.1 hperm x
     simpa only [List.count_append] using this
   have hone : ∀ x, m.count x + p0.count x ≤ 1 := fun x => by
     have h1 := List.nodup_iff_count.1 hcu.nd x
     have h2 := List.nodup_iff_count.1 hp0 x
     rcases Nat.eq_zero_or_pos (m.count x) with h3 | h3
     · omega
     · rcases Nat.eq_zero_or_pos (p0.count x) with h4 | h4
       · omega
       · have hm := List.count_pos_iff.1 h3
         have hp := List.count_pos_iff.1 h4
         have := (hcu.mf x hm).1
         have e : ((T.wO E1 G1).f x || (T.wO E1 G1).g x) = (T.f x || T.g x) := rfl
         rw [e, hf0 x hp] at this; cases this
   have hlen : pages.length + l.length = m.length + p0.length := by
     have := hperm.length_eq
     simpa only [List.length_append] using this
   have hlf : ∀ x ∈ l, T1.f x = true := fun x hx => by
     have h1 := List.count_pos_iff.2 hx
     have h2 := hcnt x
     rw [hcu.f]
     rcases Nat.eq_zero_or_pos (m.count x) with h3 | h3
     · have : x ∈ p0 := List.count_pos_iff.1 (by omega)
       have e : (T.wO E1 G1).f x = T.f x := rfl
       rw [e, hf0 x this]; rfl
     · have : x ∈ m := List.count_pos_iff.1 h3
       simp [this]
   have hlnd : l.Nodup := nodup_of_count fun x => by have := hcnt x; have := hone x; omega
   obtain ⟨g1, g2⟩ := setOk he22 (i := 0) (by simp)
   have he27 := varSet he22 (i := 0) (.int .i64 0)
   obtain ⟨hc27, ht27⟩ := hsetE w22 T1 cc 0 hcc hto22 hE1'
   have hq27 := hq22.chg (chgSet w22 ev 0 (.int .i64 0)) hpe
   refine ⟨_, _, 0, rfl, g1, g2, nx ⟨0, he27.cell, fun hx => (by cases hx), fun _ => nx ?_⟩⟩
   generalize hw27 : w22.setCell ⟨ev, 0, none⟩ (.int .i64 0) = w27 at he27 hc27 hq27 ht27 ⊢
   have hxd2 : Ext w27 w27.drew := ext_drew _
   have hcd := hc27.ext hxd2
   have hgv := change_gives hcd hcd.lf.src (fun q hq => (hcd.gl q hq).1) (l := cc.left) (fun x hx => hlf x (by rw [hleft] at hx; exact hx)) (by rw [hleft]; exact hlnd) (by rw [hleft]; omega)
   rw [hcb1] at hgv
   have hcdc := hcd.cells.2.2
   rw [hcb1] at hcdc
   refine ⟨id, _, hq27.drew.cell, id, _, hq27.drew.cell, _, rfl, id, cc.lf, hcdc, hgv.use ?_⟩
   rintro _ w38 ⟨rfl, T2, hc2, hg⟩
   rw [hleft] at hg
   have he38 := (he27.ext hxd2).chg hg.to.chg (hcd.t.eN hE1')
   have ht38 : TTo T T2 w w38 60 := ((ht27.trans (TTo.ext T1 hxd2)).trans hg.to).mono (by omega)
   have htb2 : T2.tb = T.tb := ht38.tb
   have hE2 : T2.E = E1 := by rw [hg.E]; exact hcu.E
   have hE2e : T2.E ev := by rw [hE2]; exact hEe
   have hvt : Var w38 T.tb (trL T2) Ty.tree_Tree := by rw [← htb2]; exact hc2.t.t
   obtain ⟨k1, k2⟩ := setOk hvt (i := 3) (by simp [trL])
   have hvt2 := varSet hvt (i := 3) (.int .i64 (root : Nat))
   have hcs1 := chgSet w38 T.tb 3 (.int .i64 (root : Nat))
   obtain ⟨k3, k4⟩ := setOk hvt2 (i := 4) (by simp [trL])
   have hvt3 := varSet hvt2 (i := 4) (.int .i64 (hgt : Nat))
   have hcs2 := chgSet (w38.setCell ⟨T.tb, 3, none⟩ (.int .i64 (root : Nat))) T.tb 4 (.int .i64 (hgt : Nat))
   refine ⟨rfl, _, rfl, by rw [add_mk]; exact k1, by rw [add_mk]; exact k2, nx ⟨_, rfl, by rw [add_mk, add_mk]; exact k3, by rw [add_mk, add_mk]; exact k4, nx ?_⟩⟩
   rw [add_mk, add_mk, Nat.zero_add, Nat.zero_add]
   have hc43 : Chg (fun q => q = T.tb) w38 ((w38.setCell ⟨T.tb, 3, none⟩ (.int .i64 (root : Nat))).setCell ⟨T.tb, 4, none⟩ (.int .i64 (hgt : Nat))) := hcs1.trans hcs2
   generalize hw43 : (w38.setCell ⟨T.tb, 3, none⟩ (.int .i64 (root : Nat))).setCell ⟨T.tb, 4, none⟩ (.int .i64 (hgt : Nat)) = w43 at hvt3 hc43 ⊢
   have hpg : ∀ x ∈ pages, x ∉ l := fun x hx hl => by
     have h1 := List.count_pos_iff.2 hx
     have h2 := List.count_pos_iff.2 hl
     have := hcnt x
     have := hone x
     omega
   have hwf2 : (hgt = 0 ∧ root = 0 ∧ pages = [] ∧ Lnew = []) ∨ (Wf T2.P hgt none none root pages Lnew ∧ root ∈ pages) := hwf.imp id fun hw => hw.agree fun x hx => ((hg.keep x (.inl (hpg x hx))).1).symm
   have hrn : root < T2.n := by
     rcases hwf2 with ⟨_, h1, _⟩ | ⟨h1, _⟩
     · have := hc2.t.s.n1; omega
     · obtain ⟨nd, _, h2, _⟩ := h1.vn
       exact (hc2.t.pn _ _ h2).1
   have hvt4 : Var w43 T2.tb (trL (T2.wR root hgt)) Ty.tree_Tree := by rw [htb2]; exact hvt3
   obtain ⟨hT43, hto43⟩ := hc2.t.setR hvt4 (by rw [htb2]; exact hc43) hrn h12
   have hev3 : ev ≠ T.tb := fun e => by have := h.lt (q := T.tb) (.inr (.inl rfl)); omega
   have he43 := he38.chg hc43 hev3
   obtain ⟨g5, g6⟩ := setOk he43 (i := 0) (by simp)
   have he44 := varSet he43 (i := 0) (.int .i64 0)
   have hcs44 := chgSet w43 ev 0 (.int .i64 0)
   refine ⟨g5, g6, nx (W.tree_Tree_does_1_dfr ⟨ev, 0, none⟩ ⟨pv, 0, none⟩ _ _ ?_)⟩
   (delta W.tree_Tree_does_1 r2 Br r1 c1; dsimp only)
   refine ⟨0, he44.cell, fun hx => (by cases hx), fun _ => ⟨0, he44.cell, ?_⟩⟩
   have hT44 : TrAt (w43.setCell ⟨ev, 0, none⟩ (.int .i64 0)) (T2.wR root hgt) := hT43.grow (E := T2.E) (G := T2.G) hcs44 (fun q e _ => .inl (by rw [e]; exact hE2e)) (fun q hq => .inl hq) (fun q hq => .inr (.inl hq)) fun q hq => (hc2.t.de q hq).2.2
   have ht44 : TTo T (T2.wR root hgt) w (w43.setCell ⟨ev, 0, none⟩ (.int .i64 0)) 60 := ((ht38.trans hto43).mono (by omega)).step (E := T2.E) (G := T2.G) hcs44 (fun q e hl => by omega) (fun q hq => .inl hq) fun q hq => .inl hq
   obtain ⟨f1, f2⟩ := fin _ _ hT44 ht44 hE2 fun q hq => by
     show T2.G q
     rw [hg.G]; exact hGG q hq
   refine ⟨_, f1, f2, rfl, rfl, .inr (.inl ⟨rfl, hroom, ⟨pages, ?_, nodup_of_count fun x => by have := hcnt x; have := hone x; omega, fun no => ?_⟩, fun no hno => ?_⟩)⟩
   · rcases hwf2 with ⟨h1, h2, h3, h4⟩ | ⟨h1, _⟩
     · exact .inl ⟨h1, h2, h3, h4⟩
     · exact .inr h1
   · show T2.f no = true ↔ _
     rw [hg.f, hcu.f]
     have e : (T.wO E1 G1).f no = T.f no := rfl
     rw [e]
     have hc1 := hcnt no
     have hc2 := hone no
     have hm1 : no ∈ m ↔ 0 < m.count no := List.count_pos_iff.symm
     have hp1 : no ∈ p0 ↔ 0 < p0.count no := List.count_pos_iff.symm
     have hl1 : no ∈ l ↔ 0 < l.count no := List.count_pos_iff.symm
     have hg1 : no ∈ pages ↔ 0 < pages.count no := List.count_pos_iff.symm
     have hfp : 0 < p0.count no → T.f no = true := fun h => hf0 no (hp1.2 h)
     have hfm : 0 < m.count no → T.f no = false := fun h => by
       have := (hcu.mf no (hm1.2 h)).1
       have e : ((T.wO E1 G1).f no || (T.wO E1 G1).g no) = (T.f no || T.g no) := rfl
       rw [e] at this
       cases hfn : T.f no
       · rfl
       · rw [hfn] at this; cases this
     rw [Bool.and_eq_true, Bool.or_eq_true, decide_eq_true_eq, Bool.not_eq_true', decide_eq_false_iff_not, hm1, hp1, hl1, hg1]
     constructor
     · rintro ⟨h1 | h1, h2⟩
       · by_cases h3 : 0 < p0.count no
         · left; omega
         · exact .inr ⟨h1, h3⟩
       · left; omega
     · rintro (h1 | ⟨h1, h2⟩)
       · refine ⟨?_, by omega⟩
         by_cases h3 : 0 < p0.count no
         · exact .inl (hfp h3)
         · right; omega
       · refine ⟨.inl h1, fun h3 => ?_⟩
         have : 0 < m.count no := by omega
         rw [hfm this] at h1; cases h1
   · have hno2 : (T.f no || T.g no) = true := by rw [hno]; simp
     have hgg : T1.g no = true := by rw [hcu.to.g]; exact hno
     have h1 := hg.keep no (.inr hgg)
     have h2 := hcu.keep no hno2
     exact ⟨h1.1.trans h2.1, h1.2.trans h2.2⟩
end Go.Proofs.YtplieiecebljmaaGreat
namespace Go.Proofs.YtplieiecebljmaaGreat
open Go Gx
theorem ltK_at {ks : List Key} {k : Key} {i : Nat} (hs : ks.Pairwise ltK) (h1 : leafIx ks k ≤ i) (hi : i < ks.length) (hk : ks[leafIx ks k]? ≠ some k) : ltK k ks[i] := by
 rcases leK_iff.1 (leafIx_ge hs h1 hi) with h2 | h2
 · exact h2
 · exfalso
   rcases Nat.lt_or_ge (leafIx ks k) i with h3 | h3
   · have hj : leafIx ks k < ks.length := by omega
     have h4 := leafIx_ge hs (Nat.le_refl _) hj
     have h5 := List.pairwise_iff_getElem.1 hs _ _ hj hi h3
     rw [← h2] at h5
     exact h4 h5
   · have e : i = leafIx ks k := by omega
     apply hk
     subst e
     rw [List.getElem?_eq_getElem hi, ← h2]
theorem leaf_split {n : Nd} (h : LeafOk n) {i : Nat} (hi : i ≤ n.keys.length) : ∃ a b c d : List Key, n.keys = a ++ b ∧ n.vals = c ++ d ∧ a.length = i ∧ c.length = i ∧ b.length = d.length ∧ n.keys.take i = a ∧ n.keys.drop i = b ∧ n.vals.take i = c ∧ n.vals.drop i = d := by
 have hl := h.len
 refine ⟨n.keys.take i, n.keys.drop i, n.vals.take i, n.vals.drop i, (List.take_append_drop i _).symm, (List.take_append_drop i _).symm, ?_, ?_, ?_, rfl, rfl, rfl, rfl⟩
 · rw [List.length_take]; omega
 · rw [List.length_take]; omega
 · rw [List.length_drop, List.length_drop]; omega
def cellL (k v : Key) : Nat := 2 + k.length + v.length
theorem nsize_leaf {n : Nd} (h : n.leaf = true) : nsize n = 1 + (List.zipWith cellL n.keys n.vals).sum := by
 unfold nsize
 rw [if_pos h, cells_leaf h]; rfl
theorem putN_ok {n : Nd} {k v : Key} (h : LeafOk n) (hk : keyOk k) (hv : v.length ≤ 24) : LeafOk (putN n k v) ∧ (putN n k v).pairs = putL n.pairs k v ∧ nsize (putN n k v) ≤ nsize n + 50 ∧ (putN n k v).keys ≠ [] ∧ n.keys.length ≤ (putN n k v).keys.length ∧ (∀ s ∈ (putN n k v).keys, s = k ∨ s ∈ n.keys) := by
 have hlen := h.len
 have hle := leafIx_le n.keys k
 have hp : n.pairs = n.keys.zip n.vals := rfl
 have hrise := h.rise
 have hlt1 : ∀ (j : Nat) (hj : j < n.keys.length), j < leafIx n.keys k → ltK n.keys[j] k := fun j hj h1 => leafIx_lt h1 hj
 have hgt1 : n.keys[leafIx n.keys k]? ≠ some k → ∀ (j : Nat) (hj : j < n.keys.length), leafIx n.keys k ≤ j → ltK k n.keys[j] := fun he j hj h1 => ltK_at hrise h1 hj he
 rw [hp, putL_zip h.rise]
 unfold putN hasK
 generalize hi : leafIx n.keys k = i at hle hlt1 hgt1 ⊢
 obtain ⟨a, b, c, d, e1, e2, e3, e4, e5, e6, e7, e8, e9⟩ := leaf_split h hle
 have hz : n.keys.zip n.vals = a.zip c ++ b.zip d := by rw [e1, e2]; exact zip_app (by omega)
 have hzl : (a.zip c).length = i := by rw [List.length_zip]; omega
 by_cases he : n.keys[i]? = some k
 · rw [if_pos (by simpa using he), if_pos he]
   have hb0 : ∃ b', b = k :: b' := by
     cases b with
     | nil => rw [e1, List.getElem?_append_right (by omega)] at he; simp at he
     | cons y b' =>
       rw [e1, List.getElem?_append_right (by omega), e3, Nat.sub_self] at he
       simp at he
       exact ⟨b', by rw [he]⟩
   obtain ⟨b', rfl⟩ := hb0
   obtain ⟨x, d', rfl⟩ : ∃ x d', d = x :: d' := by
     cases d with
     | nil => simp at e5
     | cons x d' => exact ⟨x, d', rfl⟩
   have hset : n.vals.set i v = c ++ v :: d' := by
     rw [e2, List.set_append_right _ _ (by omega), e4, Nat.sub_self]; rfl
   refine ⟨⟨⟨h.ok, h.rise⟩, h.leaf, by simp [hlen], h.kids, fun z hz => ?_⟩, ?_, ?_, fun e => by have e : n.keys = [] := e; rw [e] at e1; simp at e1, Nat.le_refl _, fun s hs => .inr hs⟩
   · rcases List.mem_or_eq_of_mem_set hz with h1 | h1
     · exact h.vals z h1
     · rw [h1]; exact hv
   · show n.keys.zip (n.vals.set i v) = _
     rw [hset, hz, e1, zip_app (by omega), take_left2 hzl]
     have e10 : (a.zip c ++ (k :: b').zip (x :: d')).drop (i + 1) = b'.zip d' := by
       rw [List.zip_cons_cons, show a.zip c ++ (k, x) :: b'.zip d' = (a.zip c ++ [(k, x)]) ++ b'.zip d' by simp]
       exact drop_left' (by simp only [List.length_append, hzl, List.length_singleton])
     rw [e10]; rfl
   · rw [nsize_leaf h.leaf, nsize_leaf (n := { n with vals := n.vals.set i v }) h.leaf]
     show 1 + (List.zipWith cellL n.keys (n.vals.set i v)).sum ≤ _
     rw [hset, e1, e2, List.zipWith_append (by omega), List.zipWith_append (by omega), List.sum_append, List.sum_append, List.zipWith_cons_cons, List.zipWith_cons_cons, List.sum_cons, List.sum_cons]
     unfold cellL
     omega
 · rw [if_neg (by simpa using he), if_neg he]
   have hgt2 := hgt1 he
   refine ⟨⟨⟨fun z hz => ?_, ?_⟩, h.leaf, ?_, h.kids, fun z hz => ?_⟩, ?_, ?_, fun e => ?_, ?_, fun s hs => ?_⟩
   · have hz : z ∈ n.keys.take i ++ [k] ++ n.keys.drop i := hz
     simp only [List.mem_append, List.mem_singleton] at hz
     rcases hz with (hz | rfl) | hz
     · exact h.ok z (List.mem_of_mem_take hz)
     · exact hk
     · exact h.ok z (List.mem_of_mem_drop hz)
   · show (n.keys.take i ++ [k] ++ n.keys.drop i).Pairwise ltK
     rw [e6, e7]
     have hab : (a ++ b).Pairwise ltK := by rw [← e1]; exact hrise
     obtain ⟨g1, g2, g3⟩ := List.pairwise_append.1 hab
     have hak : ∀ x ∈ a, ltK x k := fun x hx => by
       obtain ⟨j, hj, rfl⟩ := List.getElem_of_mem hx
       have := hlt1 j (by rw [e1, List.length_append]; omega) (by omega)
       simp only [e1, List.getElem_append_left hj] at this
       exact this
     have hkb : ∀ y ∈ b, ltK k y := fun y hy => by
       obtain ⟨j, hj, rfl⟩ := List.getElem_of_mem hy
       have := hgt2 (i + j) (by rw [e1, List.length_append]; omega) (by omega)
       have e : (a ++ b)[i + j]'(by rw [List.length_append]; omega) = b[j] := by
         rw [List.getElem_append_right (by omega)]; congr 1; omega
       simp only [e1, e] at this
       exact this
     rw [List.append_assoc]
     refine List.pairwise_append.2 ⟨g1, ?_, fun x hx y hy => ?_⟩
     · exact List.pairwise_cons.2 ⟨hkb, g2⟩
     · rcases List.mem_cons.1 hy with rfl | hy
       · exact hak x hx
       · exact g3 x hx y hy
   · show (n.vals.take i ++ [v] ++ n.vals.drop i).length = (n.keys.take i ++ [k] ++ n.keys.drop i).length
     rw [e6, e7, e8, e9]
     simp only [List.length_append, List.length_singleton]; omega
   · have hz : z ∈ n.vals.take i ++ [v] ++ n.vals.drop i := hz
     simp only [List.mem_append, List.mem_singleton] at hz
     rcases hz with (hz | rfl) | hz
     · exact h.vals z (List.mem_of_mem_take hz)
     · exact hv
     · exact h.vals z (List.mem_of_mem_drop hz)
   · show (n.keys.take i ++ [k] ++ n.keys.drop i).zip (n.vals.take i ++ [v] ++ n.vals.drop i) = _
     rw [e6, e7, e8, e9, hz, take_left2 hzl, drop_left' hzl, List.append_assoc, List.append_assoc, zip_app (by omega)]
     rfl
   · rw [nsize_leaf h.leaf, nsize_leaf (n := { n with keys := n.keys.take i ++ [k] ++ n.keys.drop i, vals := n.vals.take i ++ [v] ++ n.vals.drop i }) h.leaf]
     show 1 + (List.zipWith cellL (n.keys.take i ++ [k] ++ n.keys.drop i) (n.vals.take i ++ [v] ++ n.vals.drop i)).sum ≤ _
     have g1 : (List.zipWith cellL (a ++ [k] ++ b) (c ++ [v] ++ d)).sum = (List.zipWith cellL a c).sum + (cellL k v + (List.zipWith cellL b d).sum) := by
       rw [List.append_assoc, List.append_assoc, List.zipWith_append (by omega), List.sum_append]; rfl
     have g2 : (List.zipWith cellL (a ++ b) (c ++ d)).sum = (List.zipWith cellL a c).sum + (List.zipWith cellL b d).sum := by
       rw [List.zipWith_append (by omega), List.sum_append]
     rw [e6, e7, e8, e9, e1, e2, g1, g2]
     have := hk.2
     unfold cellL
     omega
   · have e : n.keys.take i ++ [k] ++ n.keys.drop i = [] := e
     simp at e
   · show n.keys.length ≤ (n.keys.take i ++ [k] ++ n.keys.drop i).length
     rw [e6, e7, e1]
     simp only [List.length_append, List.length_singleton]; omega
   · have hs : s ∈ n.keys.take i ++ [k] ++ n.keys.drop i := hs
     simp only [List.mem_append, List.mem_singleton] at hs
     rcases hs with (hs | rfl) | hs
     · exact .inr (List.mem_of_mem_take hs)
     · exact .inl rfl
     · exact .inr (List.mem_of_mem_drop hs)
end Go.Proofs.YtplieiecebljmaaGreat
namespace Go.Proofs.YtplieiecebljmaaGreat
open Go Gx
def ChgR (T : Tr) (p0 : List Nat) (Lnew : List KV) (w : World) (v : Value) (w' : World) : Prop :=
 ∃ T' : Tr, TrAt w' T' ∧ TTo T T' w w' 100 ∧ T'.E = T.E ∧ T'.G = T.G ∧
   ((v = .int .i64 2 ∧ roomT T < 2 * T.height + 3 ∧ T' = T) ∨
    (v = .int .i64 0 ∧ 2 * T.height + 3 ≤ roomT T ∧ (∃ pages, TreeOk T' pages Lnew ∧ pages.Nodup ∧ ∀ no, T'.f no = true ↔ (no ∈ pages ∨ (T.f no = true ∧ no ∉ p0))) ∧ ∀ no, T.g no = true → T'.P no = T.P no ∧ T'.C.view no = T.C.view no) ∨
    (v = .int .i64 3 ∧ ¬ T.C.D.calm 100 ∧ T'.root = T.root ∧ T'.height = T.height ∧ T'.f = T.f ∧ ∀ no, (T.f no || T.g no) = true → T'.P no = T.P no ∧ T'.C.view no = T.C.view no))
theorem DoesR.chg {T : Tr} {C' : Ch} {p0 : List Nat} {Lnew : List KV} {w w1 w' : World} {v : Value} {k : Nat} (h : DoesR (T.wC C' T.P) p0 Lnew w1 v w') (hto : TTo T (T.wC C' T.P) w w1 k) (hk : k ≤ 40) (hv : ∀ j, C'.view j = T.C.view j) (hroom : 2 * T.height + 3 ≤ roomT T) : ChgR T p0 Lnew w v w' := by
 obtain ⟨T', h1, h2, h3, h4, h5⟩ := h
 refine ⟨T', h1, (hto.trans h2).mono (by omega), h3, h4, ?_⟩
 have er : roomT (T.wC C' T.P) = roomT T := rfl
 have eh : (T.wC C' T.P).height = T.height := rfl
 rcases h5 with ⟨_, h6, _⟩ | ⟨rfl, h6, h7, h8⟩ | ⟨rfl, h6, h7, h8, h9, h10⟩
 · rw [er, eh] at h6; omega
 · exact .inr (.inl ⟨rfl, hroom, h7, fun no hno => ⟨(h8 no hno).1, (h8 no hno).2.trans (hv no)⟩⟩)
 · exact .inr (.inr ⟨rfl, fun hc => h6 (hto.calm 60 (calm_mono hc (by omega))), h7, h8, h9, fun no hno => ⟨(h10 no hno).1, (h10 no hno).2.trans (hv no)⟩⟩)
theorem tree_keyed (w : World) (s : Sl) : Ret Tryz.prog F.tree_keyed #[.slice s.a s.len s.cap] w (fun v w' => v = .bool (decide (1 ≤ s.len ∧ s.len ≤ 24)) ∧ w = w') := by
 refine W.tree_keyed_ok s w _ ?_
 unfold W.tree_keyed
 refine ⟨?_, rfl⟩
 congr 1
 rw [Bool.eq_iff_iff, Bool.and_eq_true, decide_eq_true_eq, decide_eq_true_eq, decide_eq_true_eq]
 omega
theorem leafOf {T : Tr} {w : World} {pages : List Nat} {L : List KV} {k : Key} (h : TrAt w T) (hok : TreeOk T pages L) : ∃ steps, WayOk T.P k T.height T.root steps ∧
   ((steps = [] ∧ T.height = 0 ∧ pages = [] ∧ L = []) ∨ (∃ (no1 : Nat) (n1 : Nd) (lo1 hi1 : Option Key) (st1 : List (Nat × Nd × Nat)) (pg1 : List Nat) (A1 B1 : List KV), steps = st1 ++ [(no1, n1, 0)] ∧ Ctx T.P k T.height 1 lo1 hi1 st1 pg1 A1 B1 ∧ T.P no1 = some n1 ∧ LeafOk n1 ∧ n1.within lo1 hi1 ∧ n1.keys ≠ [] ∧ (st1 ≠ [] → 2 ≤ n1.keys.length) ∧ inB lo1 hi1 k ∧
     pages.Perm (no1 :: pg1) ∧ L = A1 ++ (n1.pairs ++ B1) ∧ ∀ u, Loc k u → u L = A1 ++ (u n1.pairs ++ B1))) := by
 rcases hok with ⟨h1, h2, h3, h4⟩ | hw
 · exact ⟨[], by rw [h1]; rfl, .inl ⟨rfl, h1, h3, h4⟩⟩
 · cases hh : T.height with
   | zero => rw [hh] at hw; exact hw.elim
   | succ t =>
     rw [hh] at hw
     obtain ⟨rest, st1, no1, n1, lo1, hi1, pg1, A1, B1, r1, r2, r3, r4, r5, r6, r7, r8, r9, r10, r11, r12⟩ := Ctx.down (P := T.P) (k := k) (top := t + 1) (L0 := L) .top hw (fun h => absurd rfl h) ⟨fun _ e => (by cases e), fun _ e => (by cases e)⟩ (by simp) (fun u _ => by simp)
     rw [List.nil_append] at r2
     rw [List.append_nil] at r10
     exact ⟨rest, r1, .inr ⟨no1, n1, lo1, hi1, st1, pg1, A1, B1, r2, r3, r4, r5, r6, r7, r8, r9, r10, r11, r12⟩⟩
theorem TreeOk.low {T : Tr} {pages : List Nat} {L : List KV} (h : TreeOk T pages L) (hL : L.length < 4096) : T.height < 12 ∧ pages.length ≤ L.length := by
 rcases h with ⟨h1, _, h3, _⟩ | hw
 · rw [h1, h3]; exact ⟨by omega, Nat.zero_le _⟩
 · obtain ⟨g1, g2, g3⟩ := hw.pages
   refine ⟨?_, g1⟩
   rcases Nat.lt_or_ge T.height 12 with h | h
   · exact h
   · have h5 := g3 (by omega)
     have h6 : 2 ^ 12 ≤ 2 ^ T.height := Nat.pow_le_pow_right (by decide) h
     have h7 : (2 : Nat) ^ 12 = 4096 := by decide
     omega
theorem does_leaf {w1 : World} {T : Tr} {C' : Ch} {pages : List Nat} {L Lnew : List KV} {k : Key} {steps : List (Nat × Nd × Nat)} {s : Sl} {wl : List Sp} {n1 n' : Nd} {K V D : Sl} (h : TrAt w1 (T.wC C' T.P)) (hok : TreeOk T pages L) (hL : L.length < 4096) (hnd : pages.Nodup) (hf : ∀ x ∈ pages, T.f x = true) (hld : C'.D.ld ≤ 900000000)
   (hm : wl.map Sp.st = steps) (hway : WayM (fun q => ¬ (T.wC C' T.P).M q) w1 s wl) (hn : NdAt (fun q => ¬ (T.wC C' T.P).M q) w1 n' K V D) (hl' : LeafOk n') (hst : (steps = [] ∧ T.height = 0 ∧ pages = [] ∧ n'.keys ≠ [] ∧ nsize n' ≤ 232 ∧ n'.pairs = Lnew) ∨ (∃ (no1 : Nat) (lo1 hi1 : Option Key) (st1 : List (Nat × Nd × Nat)) (pg1 : List Nat) (A1 B1 : List KV), steps = st1 ++ [(no1, n1, 0)] ∧ Ctx T.P k T.height 1 lo1 hi1 st1 pg1 A1 B1 ∧ n'.within lo1 hi1 ∧ (st1 ≠ [] → n'.keys ≠ []) ∧ pages.Perm (no1 :: pg1) ∧ Lnew = A1 ++ (n'.pairs ++ B1) ∧ nsize n' ≤ 282)) :
   Ret Tryz.prog F.tree_Tree_does #[.pointer (some ⟨T.tb, 0, none⟩), .slice s.a s.len s.cap, ndV n' K V D] w1 (DoesR (T.wC C' T.P) pages Lnew w1) := by
 obtain ⟨hh, hpl⟩ := hok.low hL
 refine tree_does h hld hh hnd hf (by omega) fun E1 G1 w2 c2 hc2 hto hroom hmd hlf => ?_
 have hwl : s.len = wl.length := by
   have := hway.own.1
   rw [fl_length _ (spC wl)] at this; omega
 have hn2 : NdAt (fun q => ¬ ((T.wC C' T.P).wO E1 G1).M q) w2 n' K V D := (hto.nd (lo := 0) (hn.weak fun q _ hb => ⟨Nat.zero_le _, hb⟩)).weak fun q _ hb => hb.2
 rcases hst with ⟨h1, h2, h3, h4, h5, h6⟩ | ⟨no1, lo1, hi1, st1, pg1, A1, B1, e1, e2, e3, e4, e5, e6, e7⟩
 · subst h1 h3
   have hw0 : wl = [] := by simpa using hm
   exact change_up_nil (by rw [hwl, hw0]; rfl) hc2 hn2 hld (by
     have e : roomT ((T.wC C' T.P).wO E1 G1) = roomT (T.wC C' T.P) := rfl
     omega) (by rw [hmd]; simp) hlf hl' h4 h5 h6
 · have hlen : wl.length = st1.length + 1 := by
     have := congrArg List.length hm
     rw [e1, List.length_map, List.length_append, List.length_singleton] at this; exact this
   have hlev : 1 + st1.length = T.height := e2.lev
   have hw2 := hway.to hto
   have hlast : (wl.take (wl.length - 1)).map Sp.st = st1 ∧ (wl[wl.length - 1]'(by omega)).no = no1 := by
     rw [e1] at hm
     have g1 : (wl.take (wl.length - 1)).map Sp.st = (st1 ++ [(no1, n1, 0)]).take (wl.length - 1) := by rw [← hm, List.map_take]
     refine ⟨by rw [g1]; exact take_left2 (by omega), ?_⟩
     have g2 : (wl.map Sp.st)[wl.length - 1]? = some (no1, n1, 0) := by
       rw [hm, List.getElem?_append_right (by omega)]
       have : wl.length - 1 - st1.length = 0 := by omega
       rw [this]; rfl
     rw [List.getElem?_map, List.getElem?_eq_getElem (by omega)] at g2
     have g3 := Option.some.inj g2
     exact congrArg Prod.fst g3
   refine change_up (k := k) (pg := pg1) (A := A1) (B := B1) (M := n'.pairs) (lo := lo1) (hi := hi1) hc2 hw2 hn2 (by omega) (by show wl.length = T.height; omega) hh hld hroom (by rw [hmd]; simp) (by rw [hlf]; simp) ?_ ⟨hl', e3, rfl, rfl⟩ e6.symm ?_ e7 (fun h => e4 fun e => ?_) fun x hx => ?_
   · rw [hlast.1]
     have : wl.length = T.height := by omega
     rw [this]
     exact e2
   · rw [hlast.2]; exact e5
   · rw [e] at hlen; simp at hlen; omega
   · exact hf x (e5.mem_iff.2 (List.mem_cons_of_mem _ hx))
theorem WayM.ext' {B C : Nat → Prop} {w w' : World} {s : Sl} {l : List Sp} (h : WayM B w s l) (hx : Ext w w') (hB : ∀ q, B q → C q) : WayM C w' s l :=
 ⟨h.own.ext hx, fun q hq => hB q (h.bl q hq), fun x hm => ((h.nd x hm).ext hx).weak fun q _ hb => hB q hb⟩
theorem lastN {wl : List Sp} {st1 : List (Nat × Nd × Nat)} {no1 : Nat} {n2 : Nd} (hm : wl.map Sp.st = st1 ++ [(no1, n2, 0)]) : ∃ h : 0 < wl.length, (wl[wl.length - 1]'(by omega)).n = n2 := by
 have hlen : wl.length = st1.length + 1 := by
   have := congrArg List.length hm
   rw [List.length_map, List.length_append, List.length_singleton] at this; exact this
 refine ⟨by omega, ?_⟩
 have g2 : (wl.map Sp.st)[wl.length - 1]? = some (no1, n2, 0) := by
   rw [hm, List.getElem?_append_right (by omega)]
   have : wl.length - 1 - st1.length = 0 := by omega
   rw [this]; rfl
 rw [List.getElem?_map, List.getElem?_eq_getElem (by omega)] at g2
 exact congrArg (fun x => x.2.1) (Option.some.inj g2)
theorem tree_Put {w : World} {T : Tr} {pages : List Nat} {L : List KV} {tk tv : Sl} {key val : Key} (h : TrAt w T) (hok : TreeOk T pages L) (hL : L.length < 4096) (hnd : pages.Nodup) (hf : ∀ x ∈ pages, T.f x = true) (hld : T.C.D.ld ≤ 800000000)
   (hk : Src 1 w tk (u8s key)) (hkb : ∀ q, ownB tk q → q < w.heap.size ∧ ¬ T.M q) (hv : Src 1 w tv (u8s val)) (hvb : ∀ q, ownB tv q → q < w.heap.size ∧ ¬ T.M q) :
   Ret Tryz.prog F.tree_Tree_Put #[.pointer (some ⟨T.tb, 0, none⟩), .slice tk.a tk.len tk.cap, .slice tv.a tv.len tv.cap] w (fun v w' => (v = .int .i64 1 ∧ ¬ (keyOk key ∧ val.length ≤ 24) ∧ w = w') ∨ (keyOk key ∧ val.length ≤ 24 ∧ ChgR T pages (putL L key val) w v w')) := by
 have hkl := len8 hk
 have hvl := len8 hv
 refine W.tree_Tree_Put_ok (some ⟨T.tb, 0, none⟩) tk tv w _ ?_
 (delta W.tree_Tree_Put Br c3 r2 c2 wI c4 z1 nA r3 r1 T27 c6; dsimp only)
 refine Jn1 (fun b w' => b = !(decide (keyOk key)) ∧ w = w') (fun q hq => ⟨fun h => (by cases h), fun _ => (tree_keyed w tk).use ?_⟩) ?_
 · rintro _ _ ⟨rfl, rfl⟩
   refine ⟨_, rfl, hq _ _ ⟨?_, rfl⟩⟩
   unfold keyOk
   rw [hkl]
 rintro _ _ ⟨rfl, rfl⟩
 refine ⟨fun hb => .inl ⟨rfl, fun hg => ?_, rfl⟩, fun hb => ?_⟩
 · rw [decide_eq_true hg.1, hvl] at hb
   have : ¬ ((val.length : Nat) : Int) > 24 := by have := hg.2; omega
   simp [this] at hb
 have hg : keyOk key ∧ val.length ≤ 24 := by
   by_cases h1 : keyOk key
   · refine ⟨h1, ?_⟩
     rw [decide_eq_true h1, hvl] at hb
     have : ¬ ((val.length : Nat) : Int) > 24 := by simpa using hb
     omega
   · rw [decide_eq_false h1] at hb; simp at hb
 have hn2 := h.s.n2
 obtain ⟨hh, hpl⟩ := hok.low hL
 have hxd : Ext w w.drew := ext_drew w
 have hd := h.ext hxd
 refine nx ⟨fun _ => False, _, rfl, id, _, hd.cells.2.1, _, rfl, id, _, hd.cells.2.2.2.2, (space_Room hd.s).use ?_⟩
 rintro _ w13 ⟨rfl, hx13⟩
 have hrm : ((T.n : Int) - ones (fun i => T.f i || T.g i) T.n) = (roomT T : Nat) := by
   have := ones_le (fun i => T.f i || T.g i) T.n
   unfold roomT; omega
 have hw2 : IntKind.wrap .i64 (IntKind.wrap .i64 (2 * ((T.height : Nat) : Int)) + 3) = ((2 * T.height + 3 : Nat) : Int) := by
   rw [wrapi (n := 2 * ((T.height : Nat) : Int)) (by omega) (by omega), wrapi (by omega) (by omega)]; omega
 rw [hrm, hw2]
 have hX13 := hxd.trans hx13
 have h13 := h.ext hX13
 refine ⟨_, rfl, hx13, fun hb => .inr ⟨hg.1, hg.2, T, h13, (TTo.ext T hX13).mono (by omega), rfl, rfl, .inl ⟨rfl, ?_, rfl⟩⟩, fun hb => ?_⟩
 · have hb : ((roomT T : Nat) : Int) < ((2 * T.height + 3 : Nat) : Int) := of_decide_eq_true hb
   omega
 have hroom : 2 * T.height + 3 ≤ roomT T := by
   have : ¬ ((roomT T : Nat) : Int) < ((2 * T.height + 3 : Nat) : Int) := of_decide_eq_false hb
   omega
 obtain ⟨steps, hway, hcase⟩ := leafOf (k := key) h13 hok
 refine (tree_way h13 (by omega) (hk.ext hX13) (fun q hq => ⟨Nat.lt_of_lt_of_le (hkb q hq).1 hX13.size, (hkb q hq).2⟩) hway).use ?_
 rintro _ w16 ⟨C', hT16, hto16, hvw, hres⟩
 have hto := ((TTo.ext T hX13).trans hto16).mono (l := 2 * T.height) (by omega)
 rcases hres with ⟨s, wl, rfl, hm, hwm⟩ | ⟨rfl, hnc⟩
 rotate_left
 · refine ⟨⟨none, 0, 0⟩, 3, rfl, fun _ => .inr ⟨hg.1, hg.2, T.wC C' T.P, hT16, hto.mono (by omega), rfl, rfl, .inr (.inr ⟨rfl, fun hc => hnc (calm_mono hc (by omega)), rfl, rfl, rfl, fun no _ => ⟨rfl, hvw no⟩⟩)⟩, fun hx => (by cases hx)⟩
 have hwl : s.len = wl.length := by
   have := hwm.own.1
   rw [fl_length _ (spC wl)] at this; omega
 have hz13 := hX13.size
 have hwlen : wl.length = T.height := by
   have := hway.length
   rw [← hm, List.length_map] at this; exact this
 refine ⟨s, 0, rfl, fun hx => (by cases hx), fun _ => nxVar (vs := [.bool false, .slice none 0 0, .slice none 0 0, .slice none 0 0]) rfl fun w20 hp20 hx20 hs20 => ⟨hp20.storeOk rfl (plain4 (b := true) (K := nil3) (V := nil3) (D := nil3)), rfl, nxPut hp20 (us := ndL ⟨true, [], [], []⟩ nil3 nil3 nil3) rfl rfl fun w21 hp21 hc21 hs21 => ?_⟩⟩
 have hx21 : Ext w16 w21 := Ext.of_chg hx20 hc21 (Nat.le_refl _)
 obtain ⟨nv, hnv⟩ : ∃ nv, nv = w16.heap.size := ⟨_, rfl⟩
 rw [← hnv] at hp21 ⊢
 -- the leaf
 obtain ⟨n1, hn1⟩ : ∃ n1 : Nd, n1 = (if hw : 0 < wl.length then (wl[wl.length - 1]'(by omega)).n else ⟨true, [], [], []⟩) := ⟨_, rfl⟩
 refine Jn0 (fun w29 => ∃ (K V D : Sl) (B : Nat → Prop), Ext w16 w29 ∧ Var w29 nv (ndL n1 K V D) Ty.api_Node ∧ NdAt B w29 n1 K V D) (fun q hq => ⟨fun hl => ?_, fun hl => ?_⟩) ?_
 · have hl0 : 0 < wl.length := by
     have : ((s.len : Nat) : Int) > 0 := of_decide_eq_true hl
     omega
   rw [dif_pos hl0] at hn1
   have e : IntKind.wrap .i64 (((s.len : Nat) : Int) - 1) = ((wl.length - 1 : Nat) : Int) := by rw [wrapi (by omega) (by omega)]; omega
   obtain ⟨A, hA, _, _, _, hu⟩ := hwm.at (i := wl.length - 1) (by omega)
   have hu21 := hu.ext hx21
   rw [e, Int.toNat_natCast]
   subst hn1
   refine ⟨A, hA, ⟨by omega, by omega⟩, _, hu21.c1, _, hu21.c2, _, hu21.c3, _, hu21.c4, hp21.storeOk rfl plain4, rfl, nxPut hp21 (us := ndL (wl[wl.length - 1]'(by omega)).n (wl[wl.length - 1]'(by omega)).K (wl[wl.length - 1]'(by omega)).V (wl[wl.length - 1]'(by omega)).D) rfl rfl fun w28 hp28 hc28 hs28 => ?_⟩
   have hx28 : Ext w16 w28 := Ext.of_chg hx21 hc28 (by omega)
   exact hq _ ⟨_, _, _, _, hx28, hp28, hu.nd.ext hx28⟩
 · have hl0 : ¬ 0 < wl.length := by
     have : ¬ ((s.len : Nat) : Int) > 0 := of_decide_eq_false hl
     omega
   rw [dif_neg hl0] at hn1
   subst hn1
   exact hq _ ⟨nil3, nil3, nil3, fun _ => True, hx21, hp21, TxR.none _ _, TxR.none _ _, InR.none _ _⟩
 rintro w29 ⟨K, V, D, B, hx29, hp29, hnd29⟩
 have hz29 := hx29.size
 have hz16 := hto16.chg.size
 -- what the leaf is
 have hleaf : LeafOk n1 ∧ nsize n1 ≤ 232 := by
   rcases hcase with ⟨h1, h2, h3, h4⟩ | ⟨no1, n2, lo1, hi1, st1, pg1, A1, B1, r2, r3, r4, r5, r6, r7, r8, r9, r10, r11, r12⟩
   · have hw0 : ¬ 0 < wl.length := by
       rw [h1] at hm
       have : wl = [] := by simpa using hm
       rw [this]; simp
     rw [hn1, dif_neg hw0]
     exact ⟨⟨⟨fun _ h => (by cases h), List.Pairwise.nil⟩, rfl, rfl, rfl, fun _ h => (by cases h)⟩, by decide⟩
   · rw [r2] at hm
     obtain ⟨g1, g2⟩ := lastN hm
     rw [hn1, dif_pos g1, g2]
     exact ⟨r5, h.sizes _ _ r4⟩
 obtain ⟨hl1, hs1⟩ := hleaf
 have hfew := (SoundN.few (.inl hl1) (by omega))
 have hN : ∀ q, T.N q → q < w.heap.size := fun q hq => h.lt (Tr.NM hq)
 have hk29 : Src 1 w29 tk (u8s key) := (hk.chg hto.chg fun q hq hq2 => (hkb q hq).2 (Tr.NM hq2)).ext hx29
 have hv29 : Src 1 w29 tv (u8s val) := (hv.chg hto.chg fun q hq hq2 => (hvb q hq).2 (Tr.NM hq2)).ext hx29
 obtain ⟨d0, d1, d2, d3⟩ := ndCells hp29
 refine ⟨_, d0, K, d1, V, d2, D, d3, (node_Put hnd29 hl1 (by omega) hk29 hv29 hg.1 hg.2).use ?_⟩
 rintro _ w34 ⟨K2, V2, D2, rfl, hnd34, hx34⟩
 refine ⟨_, K2, V2, D2, true, rfl, nxVar (vs := [.bool false, .slice none 0 0, .slice none 0 0, .slice none 0 0]) rfl fun w41 hp41 hx41 hs41 => ⟨hp41.storeOk rfl plain4, rfl, nxPut hp41 (us := ndL (putN n1 key val) K2 V2 D2) rfl rfl fun w42 hp42 hc42 hs42 => ⟨fun hx => (by cases hx), fun _ => ?_⟩⟩⟩
 have hx42 : Ext w34 w42 := Ext.of_chg hx41 hc42 (Nat.le_refl _)
 have hX42 := (hx29.trans hx34).trans hx42
 obtain ⟨d0, d1, d2, d3⟩ := ndCells hp42
 obtain ⟨p1, p2, p3, p4, p5, p6⟩ := putN_ok hl1 hg.1 hg.2
 have hld' : C'.D.ld ≤ 900000000 := by
   have : C'.D.ld ≤ T.C.D.ld + 2 * T.height := hto.ld
   omega
 have hnd42 : NdAt (fun q => ¬ (T.wC C' T.P).M q) w42 (putN n1 key val) K2 V2 D2 := (hnd34.ext hx42).weak fun q _ hq hm2 => by have := hT16.lt hm2; omega
 have hdoes := does_leaf (Lnew := putL L key val) (k := key) (steps := steps) (n1 := n1) (hT16.ext hX42) hok hL hnd hf hld' hm (hwm.ext' hX42 fun q hq => hq.2) hnd42 p1 (by
   rcases hcase with ⟨h1, h2, h3, h4⟩ | ⟨no1, n2, lo1, hi1, st1, pg1, A1, B1, r2, r3, r4, r5, r6, r7, r8, r9, r10, r11, r12⟩
   · have hw0 : ¬ 0 < wl.length := by omega
     rw [dif_neg hw0] at hn1
     refine .inl ⟨h1, h2, h3, p4, ?_, ?_⟩
     · have : nsize n1 = 1 := by rw [hn1]; rfl
       omega
     · rw [p2, hn1, h4]; rfl
   · rw [r2] at hm
     obtain ⟨g1, g2⟩ := lastN hm
     rw [dif_pos g1, g2] at hn1
     rw [hn1] at p2 p3 p4 p5 p6 ⊢
     refine .inr ⟨no1, lo1, hi1, st1, pg1, A1, B1, r2, r3, fun s hs => ?_, fun _ => p4, r10, ?_, by have := h.sizes _ _ r4; omega⟩
     · rcases p6 s hs with rfl | h5
       · exact r9
       · exact r6 s h5
     · rw [p2]; exact r12 (fun L => putL L key val) (loc_putL key val))
 refine ⟨_, d0, K2, d1, V2, d2, D2, d3, hdoes.use ?_⟩
 intro v w' hr
 have hr' := hr.chg (w := w) ((hto.trans (TTo.ext (T.wC C' T.P) hX42)).mono (l := 40) (by omega)) (Nat.le_refl _) hvw hroom
 obtain ⟨T', h1, h2, h3, h4, h5⟩ := hr'
 rcases h5 with ⟨rfl, h6⟩ | ⟨rfl, h6⟩ | ⟨rfl, h6⟩
 · exact ⟨2, rfl, .inr ⟨hg.1, hg.2, T', h1, h2, h3, h4, .inl ⟨rfl, h6⟩⟩⟩
 · exact ⟨0, rfl, .inr ⟨hg.1, hg.2, T', h1, h2, h3, h4, .inr (.inl ⟨rfl, h6⟩)⟩⟩
 · exact ⟨3, rfl, .inr ⟨hg.1, hg.2, T', h1, h2, h3, h4, .inr (.inr ⟨rfl, h6⟩)⟩⟩
end Go.Proofs.YtplieiecebljmaaGreat
namespace Go.Proofs.YtplieiecebljmaaGreat
open Go Gx
theorem delL_len {l : List KV} {k : Key} (h : (delL l k).length = l.length) : ∀ p ∈ l, p.1 ≠ k := by
 intro p hp
 unfold delL at h
 have := (List.filter_eq_self (p := fun p : KV => decide (p.1 ≠ k))).1 (List.Sublist.eq_of_length List.filter_sublist h)
 exact of_decide_eq_true (this p hp)
theorem getL_mid {L A B M : List KV} {k : Key} (hL : L = A ++ (M ++ B)) (hu : delL L k = A ++ (delL M k ++ B)) : getL L k = getL M k := by
 have h1 : (delL A k).length ≤ A.length := List.length_filter_le _ _
 have h2 : (delL B k).length ≤ B.length := List.length_filter_le _ _
 have h3 := congrArg List.length hu
 rw [hL, delL_app, delL_app] at h3
 simp only [List.length_append] at h3
 have hA := delL_len (l := A) (k := k) (by omega)
 have hB := delL_len (l := B) (k := k) (by omega)
 have fA : A.find? (fun p => decide (p.1 = k)) = none := List.find?_eq_none.2 fun p hp => by simpa using hA p hp
 have fB : B.find? (fun p => decide (p.1 = k)) = none := List.find?_eq_none.2 fun p hp => by simpa using hB p hp
 unfold getL
 rw [hL, List.find?_append, List.find?_append, fA, fB]
 simp
theorem getL_leaf {n : Nd} {k : Key} (h : LeafOk n) : getL n.pairs k = if hasK n.keys k then n.vals[leafIx n.keys k]? else none := by
 have hle := leafIx_le n.keys k
 have hrise := h.rise
 have hlt1 : ∀ (j : Nat) (hj : j < n.keys.length), j < leafIx n.keys k → ltK n.keys[j] k := fun j hj h1 => leafIx_lt h1 hj
 have hgt1 : n.keys[leafIx n.keys k]? ≠ some k → ∀ (j : Nat) (hj : j < n.keys.length), leafIx n.keys k ≤ j → ltK k n.keys[j] := fun he j hj h1 => ltK_at hrise h1 hj he
 have hp : n.pairs = n.keys.zip n.vals := rfl
 unfold hasK
 rw [hp]
 generalize leafIx n.keys k = i at hle hlt1 hgt1 ⊢
 obtain ⟨a, b, c, d, e1, e2, e3, e4, e5, e6, e7, e8, e9⟩ := leaf_split h hle
 have hz : n.keys.zip n.vals = a.zip c ++ b.zip d := by rw [e1, e2]; exact zip_app (by omega)
 have fA : (a.zip c).find? (fun p : KV => decide (p.1 = k)) = none := List.find?_eq_none.2 fun p hp => by
   have hm := (List.of_mem_zip hp).1
   obtain ⟨j, hj, hje⟩ := List.getElem_of_mem hm
   have h1 := hlt1 j (by rw [e1, List.length_append]; omega) (by omega)
   simp only [e1, List.getElem_append_left hj, hje] at h1
   simpa using ltK_ne h1
 unfold getL
 rw [hz, List.find?_append, fA]
 by_cases he : n.keys[i]? = some k
 · rw [if_pos (by simpa using he)]
   have hb0 : ∃ b', b = k :: b' := by
     cases b with
     | nil => rw [e1, List.getElem?_append_right (by omega)] at he; simp at he
     | cons y b' =>
       rw [e1, List.getElem?_append_right (by omega), e3, Nat.sub_self] at he
       simp at he
       exact ⟨b', by rw [he]⟩
   obtain ⟨b', rfl⟩ := hb0
   obtain ⟨x, d', rfl⟩ : ∃ x d', d = x :: d' := by
     cases d with
     | nil => simp at e5
     | cons x d' => exact ⟨x, d', rfl⟩
   rw [e2, List.getElem?_append_right (by omega), e4, Nat.sub_self]
   simp
 · rw [if_neg (by simpa using he)]
   have hgt2 := hgt1 he
   have fB : (b.zip d).find? (fun p : KV => decide (p.1 = k)) = none := List.find?_eq_none.2 fun p hp => by
     have hm := (List.of_mem_zip hp).1
     obtain ⟨j, hj, hje⟩ := List.getElem_of_mem hm
     have h1 := hgt2 (i + j) (by rw [e1, List.length_append]; omega) (by omega)
     have e : (a ++ b)[i + j]'(by rw [List.length_append]; omega) = b[j] := by
       rw [List.getElem_append_right (by omega)]; congr 1; omega
     simp only [e1, e, hje] at h1
     have := ltK_ne h1
     simpa using fun h => this h.symm
   rw [fB]; rfl
def GetTR (T : Tr) (L : List KV) (key : Key) (w : World) (v : Value) (w' : World) : Prop :=
 ∃ C' : Ch, TrAt w' (T.wC C' T.P) ∧ TTo T (T.wC C' T.P) w w' 30 ∧ (∀ j, C'.view j = T.C.view j) ∧
   ((v = .tuple #[.slice none 0 0, .bool false, .int .i64 0] ∧ (keyOk key → getL L key = none)) ∨
    (∃ (t : Sl) (x : Key), v = .tuple #[.slice t.a t.len t.cap, .bool true, .int .i64 0] ∧ keyOk key ∧ getL L key = some x ∧ Tx (fun q => ¬ (T.wC C' T.P).M q) w' t x) ∨
    (v = .tuple #[.slice none 0 0, .bool false, .int .i64 3] ∧ keyOk key ∧ ¬ T.C.D.calm 30))
theorem tree_Get {w : World} {T : Tr} {pages : List Nat} {L : List KV} {tk : Sl} {key : Key} (h : TrAt w T) (hok : TreeOk T pages L) (hld : T.C.D.ld ≤ 800000000) (hk : Src 1 w tk (u8s key)) (hkb : ∀ q, ownB tk q → q < w.heap.size ∧ ¬ T.M q) :
   Ret Tryz.prog F.tree_Tree_Get #[.pointer (some ⟨T.tb, 0, none⟩), .slice tk.a tk.len tk.cap] w (GetTR T L key w) := by
 have hkl := len8 hk
 have hh := h.num.2.1
 have hTT : T.wC T.C T.P = T := rfl
 refine W.tree_Tree_Get_ok (some ⟨T.tb, 0, none⟩) tk w _ ?_
 (delta W.tree_Tree_Get Br c3 c4 wI r3 r1 z1 nA c5 bd; dsimp only)
 refine Jn1 (fun b w' => b = !(decide (keyOk key)) ∧ w = w') (fun q hq => ⟨fun h => (by cases h), fun _ => (tree_keyed w tk).use ?_⟩) ?_
 · rintro _ _ ⟨rfl, rfl⟩
   refine ⟨_, rfl, hq _ _ ⟨?_, rfl⟩⟩
   unfold keyOk
   rw [hkl]
 rintro _ _ ⟨rfl, rfl⟩
 refine ⟨fun hb => ⟨fun h => (by cases h), fun _ => ?_⟩, fun hb => ?_⟩
 · have : ¬ keyOk key := by simpa using hb
   exact ⟨T.C, h, (TTo.refl T w).mono (by omega), fun _ => rfl, .inl ⟨rfl, fun hx => absurd hx this⟩⟩
 have hg : keyOk key := by simpa using hb
 obtain ⟨steps, hway, hcase⟩ := leafOf (k := key) h hok
 refine (tree_way h (by omega) hk hkb hway).use ?_
 rintro _ w7 ⟨C', hT7, hto7, hvw, hres⟩
 rcases hres with ⟨s, wl, rfl, hm, hwm⟩ | ⟨rfl, hnc⟩
 rotate_left
 · exact ⟨⟨none, 0, 0⟩, 3, rfl, fun _ => ⟨C', hT7, hto7.mono (by omega), hvw, .inr (.inr ⟨rfl, hg, fun hc => hnc (calm_mono hc (by omega))⟩)⟩, fun hx => (by simp at hx)⟩
 have hwl : s.len = wl.length := by
   have := hwm.own.1
   rw [fl_length _ (spC wl)] at this; omega
 have hwlen : wl.length = T.height := by
   have := hway.length
   rw [← hm, List.length_map] at this; exact this
 refine ⟨s, 0, rfl, fun hx => ⟨C', hT7, hto7.mono (by omega), hvw, .inl ⟨rfl, fun _ => ?_⟩⟩, fun hx => ?_⟩
 · have hl0 : wl.length = 0 := by
     have : ((s.len : Nat) : Int) = 0 := by simpa using hx
     omega
   rcases hcase with ⟨_, _, _, h4⟩ | ⟨no1, n2, lo1, hi1, st1, pg1, A1, B1, r2, _⟩
   · rw [h4]; rfl
   · rw [r2] at hm
     obtain ⟨g1, _⟩ := lastN hm
     omega
 have hl0 : 0 < wl.length := by
   have : ¬ ((s.len : Nat) : Int) = 0 := by simpa using hx
   omega
 have e : IntKind.wrap .i64 (((s.len : Nat) : Int) - 1) = ((wl.length - 1 : Nat) : Int) := by rw [wrapi (by omega) (by omega)]; omega
 obtain ⟨A, hA, _, _, _, hu⟩ := hwm.at (i := wl.length - 1) (by omega)
 rcases hcase with ⟨h1, _⟩ | ⟨no1, n2, lo1, hi1, st1, pg1, A1, B1, r2, r3, r4, r5, r6, r7, r8, r9, r10, r11, r12⟩
 · rw [h1] at hm
   have := congrArg List.length hm
   simp at this; omega
 have hm2 := hm
 rw [r2] at hm2
 obtain ⟨g1, g2⟩ := lastN hm2
 rw [e, Int.toNat_natCast]
 generalize hlu : (wl[wl.length - 1]'(by omega)) = u at hu g2
 obtain ⟨uno, un, ukid, K, V, D⟩ := u
 obtain rfl : un = n2 := g2
 refine ⟨A, hA, ⟨by omega, by omega⟩, _, hu.c1, K, hu.c2, V, hu.c3, D, hu.c4, nxVar (vs := [.bool false, .slice none 0 0, .slice none 0 0, .slice none 0 0]) rfl fun w16 hp16 hx16 hs16 => ⟨hp16.storeOk rfl plain4, rfl, nxPut hp16 (us := ndL un K V D) rfl rfl fun w17 hp17 hc17 hs17 => ?_⟩⟩
 have hx17 : Ext w7 w17 := Ext.of_chg hx16 hc17 (Nat.le_refl _)
 obtain ⟨d0, d1, d2, d3⟩ := ndCells hp17
 have hfew := (SoundN.few (.inl r5) (by have := h.sizes _ _ r4; omega))
 have hk17 : Src 1 w17 tk (u8s key) := (hk.chg hto7.chg fun q hq hq2 => (hkb q hq).2 (Tr.NM hq2)).ext hx17
 have hnd17 : NdAt (fun q => w.heap.size ≤ q ∧ ¬ (T.wC C' T.P).M q) w17 un K V D := hu.nd.ext hx17
 refine ⟨_, d0, K, d1, V, d2, D, d3, (node_Find hnd17 hk17 r5.rise (by omega)).use ?_⟩
 rintro _ w22 ⟨rfl, hx22⟩
 have hX := hx17.trans hx22
 have hT22 := hT7.ext hX
 have hto22 : TTo T (T.wC C' T.P) w w22 30 := (hto7.trans (TTo.ext _ hX)).mono (by omega)
 have hget : getL L key = getL un.pairs key := getL_mid r11 (r12 (fun L => delL L key) (loc_delL key))
 rw [getL_leaf r5] at hget
 refine ⟨_, _, rfl, fun hn => ⟨C', hT22, hto22, hvw, .inl ⟨rfl, fun _ => ?_⟩⟩, fun hn => ?_⟩
 · have hn : hasK un.keys key = false := by simpa using hn
   rw [hget, if_neg (by rw [hn]; simp)]
 · have hn : hasK un.keys key = true := by simpa using hn
   have hli : leafIx un.keys key < un.keys.length := (List.getElem?_eq_some_iff.1 (of_decide_eq_true hn)).1
   have hvi : leafIx un.keys key < un.vals.length := by rw [r5.len]; exact hli
   obtain ⟨f0, f1, f2, f3⟩ := ndCells (hp17.ext hx22)
   obtain ⟨Av, tv, hAv, hbv, hcv, htv, _⟩ := TxR.at (hnd17.ext hx22).vals hvi
   refine ⟨V, f2, Av, hAv, hbv, tv, hcv, C', hT22, hto22, hvw, .inr (.inl ⟨tv, un.vals[leafIx un.keys key], rfl, hg, ?_, Tx.weak htv fun q _ hb => hb.2⟩)⟩
   rw [hget, if_pos hn, List.getElem?_eq_getElem hvi]
end Go.Proofs.YtplieiecebljmaaGreat
namespace Go.Proofs.YtplieiecebljmaaGreat
open Go Gx
def goodT (n : Nat) (root height : Int) : Prop := 0 ≤ height ∧ height ≤ 12 ∧ 0 ≤ root ∧ root < n ∧ (root = 0 ↔ height = 0)
theorem tree_New {w : World} {C : Ch} (hc : CaRaw w C) (sb : Nat) (gen root height : Int) :
   Ret Tryz.prog F.tree_New #[.pointer (some ⟨C.c, 0, none⟩), .pointer (some ⟨sb, 0, none⟩), .int .u64 gen, .int .i64 root, .int .i64 height] w (fun v w' =>
     (goodT C.D.n root height ∧ v = .tuple #[.pointer (some ⟨w.heap.size, 0, none⟩), .int .i64 0] ∧ Ext w w' ∧ Var w' w.heap.size [.pointer (some ⟨C.c, 0, none⟩), .pointer (some ⟨sb, 0, none⟩), .int .u64 gen, .int .i64 root, .int .i64 height] Ty.tree_Tree ∧ w'.heap.size = w.heap.size + 1) ∨
     (¬ goodT C.D.n root height ∧ v = .tuple #[.pointer none, .int .i64 1] ∧ w = w')) := by
 refine W.tree_New_ok (some ⟨C.c, 0, none⟩) (some ⟨sb, 0, none⟩) gen root height w _ ?_
 (delta W.tree_New Br c2 nA; dsimp only)
 refine Jn1 (fun b w' => (b = false ↔ (0 ≤ height ∧ height ≤ 12 ∧ 0 ≤ root ∧ root < C.D.n)) ∧ w = w') (fun q hq => ⟨fun h1 => hq _ _ ⟨?_, rfl⟩, fun h1 => ⟨_, rfl, _, hc.cells.1, (dev_Len hc.dev).use ?_⟩⟩) ?_
 · simp only [Option.isNone_some, Bool.false_or, Bool.or_eq_true, decide_eq_true_eq] at h1
   exact ⟨fun h => (by cases h), fun h => by omega⟩
 · rintro _ _ ⟨rfl, rfl⟩
   simp only [Option.isNone_some, Bool.false_or, Bool.or_eq_false_iff, decide_eq_false_iff_not] at h1
   refine ⟨_, rfl, hq _ _ ⟨?_, rfl⟩⟩
   rw [decide_eq_false_iff_not]
   omega
 rintro b _ ⟨hb, rfl⟩
 refine ⟨fun h1 => .inr ⟨fun hg => ?_, rfl, rfl⟩, fun h1 => ?_⟩
 · have h2 := hb.2 ⟨hg.1, hg.2.1, hg.2.2.1, hg.2.2.2.1⟩
   rw [h2, Bool.false_or] at h1
   have h3 := hg.2.2.2.2
   by_cases h4 : root = 0
   · rw [h4, h3.1 h4] at h1; simp at h1
   · have h5 : height ≠ 0 := fun e => h4 (h3.2 e)
     have e1 : (root == 0) = false := by simpa using h4
     have e2 : (height == 0) = false := by simpa using h5
     rw [e1, e2] at h1
     cases h1
 · rw [Bool.or_eq_false_iff] at h1
   have h2 := hb.1 h1.1
   have h3 : root = 0 ↔ height = 0 := by
     have h4 := h1.2
     by_cases h5 : root = 0 <;> by_cases h6 : height = 0 <;> simp [h5, h6] at h4 ⊢
   refine nxVar (vs := [.pointer (some ⟨C.c, 0, none⟩), .pointer (some ⟨sb, 0, none⟩), .int .u64 gen, .int .i64 root, .int .i64 height]) rfl fun w9 hv hx hs => .inl ⟨⟨h2.1, h2.2.1, h2.2.2.1, h2.2.2.2, h3⟩, rfl, hx, hv, hs⟩
structure StandAt (w : World) (xb : Nat) (T : Tr) : Prop where
 v : Var w xb [.pointer (some ⟨T.C.D.d, 0, none⟩), .pointer (some ⟨T.C.c, 0, none⟩), .pointer (some ⟨T.sb, 0, none⟩), .pointer (some ⟨T.tb, 0, none⟩), .int .i64 0, .int .i64 0] Ty.law08_Stand
 t : TrAt w T
 nx : ¬ T.M xb
def BeginR (n : Nat) (w : World) (v : Value) (w' : World) : Prop :=
 ∃ (xb : Nat) (T : Tr), v = .tuple #[.pointer (some ⟨xb, 0, none⟩), .bool true] ∧ StandAt w' xb T ∧ Ext w w' ∧ w.heap.size ≤ xb ∧ T.n = n ∧ T.root = 0 ∧ T.height = 0 ∧ T.gen = 1 ∧ T.f = (fun i => decide (i < 2)) ∧ T.g = (fun i => decide (i < 2)) ∧ T.C.D.ld = 0 ∧ (∀ k, T.C.D.calm k) ∧ (∀ q, T.M q → w.heap.size ≤ q) ∧ T.E = (fun _ => False) ∧ T.G = fun _ => False
theorem law08_Begin {n : Nat} (h1 : 16 ≤ n) (h2 : n ≤ 1600) (w : World) : Ret Tryz.prog F.law08_Begin #[.int .i64 (n : Nat)] w (BeginR n w) := by
 refine W.law08_Begin_ok (n : Nat) w _ ?_
 (delta W.law08_Begin c20 c17 nA; dsimp only)
 refine (dev_New h1 h2 w).use ?_
 rintro _ w1 ⟨d, lb, mr, rfl, hd, hx1, hf1⟩
 refine ⟨_, 0, rfl, (cache_New (k := 8) hd (by omega) (by omega)).use ?_⟩
 rintro _ w5 ⟨c, fb, rfl, hca, hx5, hc1, hc2⟩
 refine ⟨_, 0, rfl, (space_New w5 (n : Nat) 2).use ?_⟩
 rintro _ w9 (⟨hbad, _⟩ | ⟨_, _, _, _, sb, s1, s2, rfl, hs, hx9, hf9⟩)
 · exact absurd ⟨by omega, by omega, by omega, by omega⟩ hbad
 have hz5 := hx5.size
 have hz1 := hx1.size
 have hz9 := hx9.size
 have hraw9 := hca.raw.ext hx9
 refine ⟨_, 0, rfl, (tree_New hraw9 sb 1 0 0).use ?_⟩
 rintro _ w13 (⟨hg, rfl, hx13, hv13, hs13⟩ | ⟨hbad, _⟩)
 rotate_left
 · refine absurd ⟨by omega, by omega, by omega, ?_, by simp⟩ hbad
   show (0 : Int) < (((newDv n d lb mr).n : Nat) : Int)
   have : (newDv n d lb mr).n = n := by simp [Dv.n, newDv]
   omega
 refine ⟨_, 0, rfl, #[.pointer (some ⟨d, 0, none⟩), .pointer (some ⟨c, 0, none⟩), .pointer (some ⟨sb, 0, none⟩), .pointer (some ⟨w9.heap.size, 0, none⟩), .int .i64 0, .int .i64 0], by kernel_rfl, ?_⟩
 refine nxVar (vs := [.pointer (some ⟨d, 0, none⟩), .pointer (some ⟨c, 0, none⟩), .pointer (some ⟨sb, 0, none⟩), .pointer (some ⟨w9.heap.size, 0, none⟩), .int .i64 0, .int .i64 0]) rfl fun w18 hv18 hx18 hs18 => ?_
 have hnt : (newDv n d lb mr).n = n := by simp [Dv.n, newDv]
 have htn : ((n : Nat) : Int).toNat = n := Int.toNat_natCast n
 have e2 : Int.toNat 2 = 2 := rfl
 rw [htn, e2] at hs
 have hslt := hs.lt
 obtain ⟨T, hT⟩ : ∃ T : Tr, T = ⟨w9.heap.size, 1, 0, 0, newCh c fb 8 (newDv n d lb mr), sb, n, fun i => decide (i < 2), fun i => decide (i < 2), s1, s2, fun _ => False, fun _ => False, fun _ => none⟩ := ⟨_, rfl⟩
 have hca13 : CaAt T.X w13 (newCh c fb 8 (newDv n d lb mr)) := by
   have g1 := hca.grow (Y := fpS sb s1 s2) (W := fun _ => False) hx9 (fun _ h => h.elim) fun q hq => .inr ⟨hf9 q hq, hslt q hq⟩
   refine g1.grow (W := fun _ => False) hx13 (fun _ h => h.elim) fun q hq => ?_
   rw [hT] at hq
   rcases hq with hq | hq | hq | hq
   · exact .inr ⟨by rw [hq]; exact Nat.le_refl _, by rw [hq]; show w9.heap.size < _; omega⟩
   · exact .inl hq
   · exact hq.elim
   · exact hq.elim
 have hTA : TrAt w13 T := by
   subst hT
   refine ⟨hv13, hs.ext hx13, hca13, fun hq => ?_, fun _ h => h.elim, fun _ h => h.elim, hnt, ⟨by show 0 < n; omega, by show 0 ≤ 12; omega, by show 1 < _; decide⟩, fun _ _ h => (by cases h)⟩
   have := hslt _ hq
   have : w9.heap.size < w9.heap.size := this
   omega
 have hfp : ∀ q, T.M q → w.heap.size ≤ q ∧ q < w13.heap.size := fun q hq => by
   refine ⟨?_, hTA.lt hq⟩
   rw [hT] at hq
   rcases hq with hq | hq | hq | hq | hq
   · rcases hq with hq | hq | hq
     · have : q = c := hq; omega
     · have : q = fb := hq; omega
     · have := hf1 q hq; omega
   · have : q = w9.heap.size := hq; omega
   · have := hf9 q hq; omega
   · exact hq.elim
   · exact hq.elim
 have hz13 := hx13.size
 refine ⟨w13.heap.size, T, rfl, ⟨by rw [hT]; exact hv18, hTA.ext hx18, fun hq => by have := (hfp _ hq).2; omega⟩, ((((hx1.trans hx5).trans hx9).trans hx13).trans hx18), by omega, by rw [hT], by rw [hT], by rw [hT], by rw [hT], by rw [hT], by rw [hT], by rw [hT]; rfl, fun k => by rw [hT]; exact ⟨.inl rfl, .inl rfl⟩, fun q hq => (hfp q hq).1, by rw [hT], by rw [hT]⟩
end Go.Proofs.YtplieiecebljmaaGreat
