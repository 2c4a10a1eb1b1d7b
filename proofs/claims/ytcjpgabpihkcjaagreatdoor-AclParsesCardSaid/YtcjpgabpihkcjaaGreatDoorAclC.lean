/- A rule's text, the statement's own witness of life, and the law of covers. -/
import Derived.Test.YtcjpgabpihkcjaaGreatDoorAclB
import Derived.Great.BuildSlice
namespace Go.Proofs.YtcjpgabpihkcjaaGreatDoor
open Go Gx

/-! ### Covers and hits -/
theorem maskP_out {a : Ad} {n : Int} {m : Pf} (h : maskP a n = some m) : a.good = true ∧ 0 ≤ n ∧ n ≤ 8 * (a.raw.length : Int) ∧ m.bits = n ∧ ofB (maskB n.toNat a.raw) = some m.addr := by
  unfold maskP at h
  split at h
  · rename_i h2
    have hr := a.raw_length
    have hl : (maskB n.toNat a.raw).length = 4 ∨ (maskB n.toNat a.raw).length = 16 := by rw [maskB_length, hr]; split <;> simp
    obtain ⟨b, hb⟩ := ofB_some hl
    rw [hb] at h
    cases h
    exact ⟨h2.1, h2.2.1, h2.2.2, rfl, hb⟩
  · cases h
theorem inP_trans {x : Ad} {b a : Pf} (h1 : inP x b = true) (h2 : withP b a = true) : inP x a = true := by
  unfold withP at h2
  simp only [Bool.and_eq_true] at h2
  have hb : a.bits ≤ b.bits := of_decide_eq_true h2.1
  have h1 : maskP x b.bits = some b := of_decide_eq_true h1
  have h2 : maskP b.addr a.bits = some a := of_decide_eq_true h2.2
  obtain ⟨g1, p1, q1, e1, o1⟩ := maskP_out h1
  obtain ⟨g2, p2, q2, e2, o2⟩ := maskP_out h2
  have hr := (ofB_raw o1).1
  rw [hr, maskB_maskB (by omega)] at o2
  rw [hr, maskB_length] at q2
  unfold inP
  rw [decide_eq_true_eq]
  unfold maskP
  rw [if_pos ⟨g1, p2, q2⟩, o2]
  rfl
theorem cov_hits {a b : Ru} {f : Fl} (hc : covR a b = true) (hh : hitsR b f = true) : hitsR a f = true := by
  unfold covR at hc
  unfold hitsR prR at *
  simp only [Bool.and_eq_true, Bool.or_eq_true, beq_iff_eq, decide_eq_true_eq] at hc hh ⊢
  obtain ⟨⟨⟨⟨⟨⟨ga, _⟩, hp⟩, hlo⟩, hhi⟩, ws⟩, wd⟩ := hc
  obtain ⟨⟨⟨⟨⟨_, hp2⟩, h1⟩, h2⟩, i1⟩, i2⟩ := hh
  refine ⟨⟨⟨⟨⟨ga, ?_⟩, by omega⟩, by omega⟩, inP_trans i1 ws⟩, inP_trans i2 wd⟩
  omega
theorem cov_self {a : Ru} (h : goodR a = true) : covR a a = true := by
  have hg := h
  unfold goodR gP at h
  unfold covR withP prR
  simp only [Bool.and_eq_true, Bool.or_eq_true, beq_iff_eq, decide_eq_true_eq] at h ⊢
  exact ⟨⟨⟨⟨⟨⟨hg, hg⟩, .inr trivial⟩, Int.le_refl _⟩, Int.le_refl _⟩, Int.le_refl _, h.1.1.1⟩, Int.le_refl _, h.1.1.2⟩

/-! ### The text -/
def protoB (p : Int) : List UInt8 := if p = 0 then [97, 110, 121] else if p = 6 then [116, 99, 112] else if p = 17 then [117, 100, 112] else numB 10 p.toNat
def wordsR (r : Ru) : List (List UInt8) := [if r.allow then [97, 108, 108, 111, 119] else [100, 101, 110, 121], protoB r.proto, showP r.src, showP r.dst, numB 10 r.low.toNat ++ [45] ++ numB 10 r.high.toNat]
def showR (r : Ru) : List UInt8 := if goodR r then joinB 32 (wordsR r) else []
structure Ru.ok (r : Ru) : Prop where
  p : 0 ≤ r.proto ∧ r.proto ≤ 255
  l : 0 ≤ r.low ∧ r.low ≤ 65535
  h : 0 ≤ r.high ∧ r.high ≤ 65535
theorem protoB_len {p : Int} (h : 0 ≤ p ∧ p ≤ 255) : (protoB p).length ≤ 10 := by
  unfold protoB
  split
  · simp
  split
  · simp
  split
  · simp
  have := numB_len_le (b := 10) (by decide) 3 p.toNat (by omega)
  omega
theorem acl_proto {p : Int} (h : 0 ≤ p ∧ p ≤ 255) (w : World) (ht : Tab2 w) : Ret Tryz.prog F.acl_proto #[.int .u8 p] w (fun v w' => v = .string (S (protoB p)) ∧ Ext w w') := by
  refine W.acl_proto_ok p w _ ?_
  unfold W.acl_proto protoB
  refine ⟨fun h => ⟨by rw [if_pos (eq_of_beq h)]; rfl, .refl _ _⟩, fun h0 => ⟨fun h => ⟨?_, .refl _ _⟩, fun h1 => ⟨fun h => ⟨?_, .refl _ _⟩, fun h2 => ?_⟩⟩⟩
  · have h0 : p ≠ 0 := by simpa using h0
    rw [if_neg h0, if_pos (eq_of_beq h)]; rfl
  · have h0 : p ≠ 0 := by simpa using h0
    have h1 : p ≠ 6 := by simpa using h1
    rw [if_neg h0, if_neg h1, if_pos (eq_of_beq h)]; rfl
  · have h0 : p ≠ 0 := by simpa using h0
    have h1 : p ≠ 6 := by simpa using h1
    have h2 : p ≠ 17 := by simpa using h2
    rw [if_neg h0, if_neg h1, if_neg h2, wrapi (by omega) (by omega)]
    obtain ⟨n, rfl⟩ : ∃ n : Nat, p = n := ⟨p.toNat, by omega⟩
    refine (Itoa n (by omega) w ht.pow).use ?_
    rintro _ w1 ⟨rfl, hx1⟩
    exact ⟨_, rfl, rfl, hx1⟩

theorem acl_show {r : Ru} (hr : r.ok) (w : World) (ht : Tab2 w) : Ret Tryz.prog F.acl_show #[.agg r.c.toArray] w (fun v w' => v = .string (S (showR r)) ∧ Ext w w') := by
  refine W.acl_show_ok _ w _ ?_
  unfold W.acl_show
  refine nxVar (vs := r.c) rfl fun w1 hv hx1 _ => ⟨_, hv.rd r.c_length, (acl_good r w1 (ht.ext hx1)).use ?_⟩
  rintro _ w3 ⟨rfl, hx3⟩
  have hX3 := Ext.trans hx1 hx3
  have hv3 := hv.ext hx3
  unfold showR
  refine ⟨_, rfl, fun h => ⟨by rw [if_neg (by simpa using h)]; rfl, hX3⟩, fun h => ?_⟩
  have hg : goodR r = true := by simpa using h
  rw [if_pos hg]
  refine Jn1 (fun s w' => w3 = w' ∧ s = S (if r.allow then [97, 108, 108, 111, 119] else [100, 101, 110, 121])) (fun q hq => ⟨r.allow, (rcell hv3).2.2.2.1, fun h => hq _ _ ⟨rfl, by rw [if_pos h]; rfl⟩, fun h => hq _ _ ⟨rfl, by rw [h]; rfl⟩⟩) ?_
  rintro _ _ ⟨rfl, rfl⟩
  have hd : Ext w3 w3.drew := Chg.drew (.refl _ _)
  have hv10 := hv3.ext hd
  have hX10 := Ext.trans hX3 hd
  obtain ⟨lo, hlo⟩ : ∃ n : Nat, r.low = n := ⟨r.low.toNat, by have := hr.l; omega⟩
  obtain ⟨hi, hhi⟩ : ∃ n : Nat, r.high = n := ⟨r.high.toNat, by have := hr.h; omega⟩
  have hl := hr.l
  have hh := hr.h
  have n1 := numB_len_le (b := 10) (by decide) 4 lo (by omega)
  have n2 := numB_len_le (b := 10) (by decide) 4 hi (by omega)
  refine nx ⟨fun _ => False, id, _, (rcell hv10).2.1, id, _, (rcell hv10).2.2.1, ?_⟩
  rw [hlo, hhi, wrapi (n := (lo : Int)) (by omega) (by omega), wrapi (n := (hi : Int)) (by omega) (by omega)]
  refine (Itoa lo (by omega) _ (ht.ext hX10).pow).use ?_
  rintro _ w14 ⟨rfl, hx14⟩
  have hX14 := Ext.trans hX10 hx14
  refine ⟨_, rfl, hx14, by rw [S_size]; show ((_ + 1 : Nat) : Int) ≤ _; omega, (Itoa hi (by omega) _ (ht.ext hX14).pow).use ?_⟩
  rintro _ w17 ⟨rfl, hx17⟩
  have hX17 := Ext.trans hX14 hx17
  have hv17 := (hv10.ext hx14).ext hx17
  have hd2 : Ext w17 w17.drew := Chg.drew (.refl _ _)
  have hv20 := hv17.ext hd2
  have hX20 := Ext.trans hX17 hd2
  have eS : S (numB 10 lo) ++ ByteArray.mk #[45] = S (numB 10 lo ++ [45]) := S_append _ [45]
  rw [eS]
  refine ⟨_, rfl, hx17, by rw [S_size, S_size, List.length_append, List.length_singleton]; omega, nx ⟨fun _ => False, id, _, (rcell hv20).1, id, _, rrd1 hv20, id, _, rrd2 hv20, (acl_proto hr.p _ (ht.ext hX20)).use ?_⟩⟩
  rintro _ w25 ⟨rfl, hx25⟩
  have hX25 := Ext.trans hX20 hx25
  refine ⟨_, rfl, hx25, (addr_ShowPrefix r.src w25 (ht.ext hX25)).use ?_⟩
  rintro _ w28 ⟨rfl, hx28⟩
  have hX28 := Ext.trans hX25 hx28
  refine ⟨_, rfl, hx28, (addr_ShowPrefix r.dst w28 (ht.ext hX28)).use ?_⟩
  rintro _ w31 ⟨rfl, hx31⟩
  have hX31 := Ext.trans hX28 hx31
  refine ⟨_, rfl, hx31, ?_⟩
  have hw : wordsR r = [if r.allow then [97, 108, 108, 111, 119] else [100, 101, 110, 121], protoB r.proto, showP r.src, showP r.dst, numB 10 lo ++ [45] ++ numB 10 hi] := by
    unfold wordsR; rw [hlo, hhi]; rfl
  have hx34 : Ext w31 (w31.alloc (.cells (strs (wordsR r)).toArray Ty.string)) := Chg.alloc (.refl _ _) _
  have hsrc := Src.new (sz := 1) (T := Ty.string) w31 (strs (wordsR r)) 5 (by rw [hw]; rfl)
  have hsum : sumLen (wordsR r) ≤ 100000000000 := by
    rw [hw]
    have h1 := showP_len r.src
    have h2 := showP_len r.dst
    have h3 := protoB_len hr.p
    have h4 : (if r.allow then ([97, 108, 108, 111, 119] : List UInt8) else [100, 101, 110, 121]).length ≤ 5 := by split <;> simp
    simp only [sumLen, List.length_append, List.length_singleton]
    omega
  have hj := Join1 (wordsR r) 32 hsrc (Nat.le_refl _) (by rw [hw]; simp) hsum
  have e : (#[Value.string (S (if r.allow then [97, 108, 108, 111, 119] else [100, 101, 110, 121])), .string (S (protoB r.proto)), .string (S (showP r.src)), .string (S (showP r.dst)), .string (S (numB 10 lo ++ [45]) ++ S (numB 10 hi))] : Array Value) = (strs (wordsR r)).toArray := by
    rw [hw, S_append]; rfl
  rw [e]
  refine nx (hj.use ?_)
  rintro _ w35 ⟨rfl, hx35⟩
  exact ⟨_, rfl, rfl, Ext.trans (Ext.trans hX31 hx34) hx35⟩

theorem acl_Show {r : Ru} (hr : r.ok) (w : World) (ht : Tab2 w) : Ret Tryz.prog F.acl_Show #[.agg r.c.toArray] w (fun v w' => v = .string (S (showR r)) ∧ Ext w w') := by
  refine W.acl_Show_ok _ w _ ?_
  unfold W.acl_Show
  refine nxVar (vs := r.c) rfl fun w1 hv hx1 _ => ⟨_, hv.rd r.c_length, (acl_show hr w1 (ht.ext hx1)).use ?_⟩
  rintro _ w3 ⟨rfl, hx3⟩
  exact ⟨_, rfl, rfl, Ext.trans hx1 hx3⟩
theorem acl_Good (r : Ru) (w : World) (ht : Tab2 w) : Ret Tryz.prog F.acl_Good #[.agg r.c.toArray] w (fun v w' => v = .bool (goodR r) ∧ Ext w w') := by
  refine W.acl_Good_ok _ w _ ?_
  unfold W.acl_Good
  refine nxVar (vs := r.c) rfl fun w1 hv hx1 _ => ⟨_, hv.rd r.c_length, (acl_good r w1 (ht.ext hx1)).use ?_⟩
  rintro _ w3 ⟨rfl, hx3⟩
  exact ⟨_, rfl, rfl, Ext.trans hx1 hx3⟩
/-! ### lives -/
theorem buildRule (r : Ru) (w : World) : Sem.run Tryz.prog (Instr.buildSlice Ty.Sl_api_Rule 1 #[(0, .agg r.c.toArray)]) w = .ok (.slice (some ⟨w.heap.size, 0, none⟩) 1 1) (w.alloc (.cells r.c.toArray Ty.api_Rule)) := by
  obtain ⟨ie, hi⟩ := Option.isSome_iff_exists.1 (show (Tryz.prog.info? Ty.api_Rule).isSome = true by kernel_rfl)
  have hsz : ie.size = 40 := by
    have h : (Tryz.prog.info? Ty.api_Rule).map (·.size) = some 40 := by kernel_rfl
    rw [hi] at h
    exact Option.some.inj h
  obtain ⟨z, hz⟩ : ∃ z, ie.zero = some z := by
    have h : (Tryz.prog.info? Ty.api_Rule).map (·.zero.isSome) = some true := by kernel_rfl
    rw [hi] at h
    exact Option.isSome_iff_exists.1 (Option.some.inj h)
  refine run_buildSlice w Ty.Sl_api_Rule Ty.api_Rule 1 _ r.c.toArray ie z (by kernel_rfl) hi hz (by rw [hsz]; decide) (by rw [hsz]; decide) ?_
  rw [hsz]
  have := Go.Great.fill_whole (s := 40) (by decide) [.agg r.c.toArray] ((Array.range (1 * 40)).map (z.cells[· % z.cells.size]!)) (fun v hv => by
    rw [List.mem_singleton.1 hv]
    show r.c.toArray.size = 40
    simp [r.c_length]) (by simp)
  simpa [Value.cells] using this

def r0 : Ru := ⟨Pf.zero, Pf.zero, 0, 0, 65535, false⟩
def f0 : Fl := ⟨Ad.zero, Ad.zero, 0, 5, 6⟩
theorem n65535 : numB 10 65535 = [54, 53, 53, 51, 53] := by
  rw [numB_dec 4 65535 (by decide +kernel) (.inl (by decide +kernel))]; decide +kernel
theorem show_zero : showP Pf.zero = [48, 46, 48, 46, 48, 46, 48, 47, 48] := by
  have e0 : numB 10 0 = [48] := by rw [numB_lt (by omega)]; rfl
  have hm : maskP Pf.zero.addr Pf.zero.bits = some Pf.zero := by decide
  have hg : Ad.zero.good = true := by decide
  have hr : Ad.zero.raw = [0, 0, 0, 0] := by decide
  unfold showP
  rw [if_pos hm]
  have hA : showA Pf.zero.addr = [48, 46, 48, 46, 48, 46, 48] := by
    show showA Ad.zero = _
    unfold showA
    rw [if_pos hg, hr]
    show joinB 46 [numB 10 0, numB 10 0, numB 10 0, numB 10 0] = _
    rw [e0]; rfl
  rw [hA]
  show _ ++ 47 :: numB 10 0 = _
  rw [e0]; rfl
theorem good_r0 : goodR r0 = true := by decide
theorem hits_r0 : hitsR r0 f0 = true := by decide
theorem lives32 (w : World) (ht : Tab2 w) : Ret Tryz.prog F.law32_lives #[] w (fun v w' => v = .bool true ∧ Ext w w') := by
  refine W.law32_lives_ok w _ ?_
  unfold W.law32_lives
  refine ⟨r0.c.toArray, by kernel_rfl, nxVar (vs := (Ru.mk Pf.zero Pf.zero 0 0 0 false).c) (by kernel_rfl) fun w2 hv hx2 _ => ⟨hv.storeOk (by simp [Ru.c_length]) (Ru.plain _), by simp [Ru.c_length], nxPut hv (us := r0.c) (by simp [Ru.c_length]) rfl fun w3 hv3 hc3 _ => ?_⟩⟩
  have hX3 : Ext w w3 := Ext.of_chg hx2 hc3 (Nat.le_refl _)
  have hx6 : Ext w3 (w3.alloc (.cells r0.c.toArray Ty.api_Rule)) := Chg.alloc (.refl _ _) _
  have hX6 := Ext.trans hX3 hx6
  have hsrc := Src.new (sz := 40) (T := Ty.api_Rule) w3 (rsc [r0]) 1 (by rw [rsc_length]; rfl)
  have ersc : rsc [r0] = r0.c := by show r0.c ++ [] = _; simp
  rw [ersc] at hsrc
  have hrs : RS (w3.alloc (.cells r0.c.toArray Ty.api_Rule)) ⟨some ⟨w3.heap.size, 0, none⟩, 1, 1⟩ [r0] := RS.of (by rw [ersc]; exact hsrc)
  refine ⟨_, hv3.rd r0.c_length, ⟨some ⟨w3.heap.size, 0, none⟩, 1, 1⟩, _, buildRule r0 w3, f0.c.toArray, by kernel_rfl, (acl_First f0 hrs (by simp) (ht.ext hX6)).use ?_⟩
  have hidx : idxR (fun r => hitsR r f0) [r0] = 0 := idxR_some (k := 0) (by simp) hits_r0 (fun j hj => by omega)
  rintro _ w8 ⟨rfl, hx8⟩
  rw [hidx]
  have hX8 := Ext.trans hX6 hx8
  have hv8 := (hv3.ext hx6).ext hx8
  refine ⟨_, _, rfl, _, hv8.rd r0.c_length, (acl_Good r0 w8 (ht.ext hX8)).use ?_⟩
  rintro _ w13 ⟨rfl, hx13⟩
  have hX13 := Ext.trans hX8 hx13
  have hv13 := hv8.ext hx13
  refine ⟨_, rfl, Jn1 (fun b w' => b = true ∧ Ext w w') (fun q hq => ⟨fun _ => ⟨_, hv13.rd r0.c_length, (acl_Show ⟨by decide, by decide, by decide⟩ w13 (ht.ext hX13)).use ?_⟩, fun h => ?_⟩) ?_⟩
  · rintro _ w18 ⟨rfl, hx18⟩
    refine ⟨_, rfl, hq _ _ ⟨?_, Ext.trans hX13 hx18⟩⟩
    have e : showR r0 = [100, 101, 110, 121, 32, 97, 110, 121, 32, 48, 46, 48, 46, 48, 46, 48, 47, 48, 32, 48, 46, 48, 46, 48, 46, 48, 47, 48, 32, 48, 45, 54, 53, 53, 51, 53] := by
      unfold showR
      rw [if_pos good_r0]
      show joinB 32 [[100, 101, 110, 121], [97, 110, 121], showP Pf.zero, showP Pf.zero, numB 10 0 ++ [45] ++ numB 10 65535] = _
      rw [show_zero, n65535, numB_lt (by omega)]; rfl
    rw [e]
    exact (S_beq _ _).trans (by decide)
  · rw [good_r0] at h
    exact absurd h (by decide)
  · rintro _ w' ⟨rfl, hx⟩
    exact ⟨rfl, hx⟩

end Go.Proofs.YtcjpgabpihkcjaaGreatDoor
