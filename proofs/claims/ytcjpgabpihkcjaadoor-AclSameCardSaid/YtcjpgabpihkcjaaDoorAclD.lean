/- Rules as arguments; the law of hits. -/
import Derived.Test.YtcjpgabpihkcjaaDoorAclC
namespace Go.Proofs.YtcjpgabpihkcjaaDoor
open Go Gx

/-! ### Arguments -/
def lfP : List Lf := (.bool :: bytesL 16) ++ [.int .i64]
def lfA : List Lf := .bool :: bytesL 16
def lfR : List Lf := lfP ++ (lfP ++ [.int .u8, .int .u16, .int .u16, .bool])
def lfF : List Lf := lfA ++ (lfA ++ [.int .u16, .int .u16, .int .u8])
theorem u16_range {n : Int} (h0 : IntKind.u16.min ≤ n) (h1 : n ≤ IntKind.u16.max) : 0 ≤ n ∧ n ≤ 65535 := ⟨h0, h1⟩
theorem u8_range {n : Int} (h0 : IntKind.u8.min ≤ n) (h1 : n ≤ IntKind.u8.max) : 0 ≤ n ∧ n ≤ 255 := ⟨h0, h1⟩
theorem Ru.of_okRs {cs : List Value} (h : okRs lfR cs) : ∃ r : Ru, cs = r.c ∧ r.ok := by
  obtain ⟨u1, t1, rfl, h1, h2⟩ := okRs_app h
  obtain ⟨u2, t2, rfl, h3, h4⟩ := okRs_app h2
  obtain ⟨p, rfl, _⟩ := Pf.of_okRs h1
  obtain ⟨q, rfl, _⟩ := Pf.of_okRs h3
  obtain ⟨_, _, rfl, ⟨a, rfl, a1, a2⟩, ⟨_, _, rfl, ⟨b, rfl, b1, b2⟩, ⟨_, _, rfl, ⟨c, rfl, c1, c2⟩, ⟨_, _, rfl, ⟨d, rfl⟩, rfl⟩⟩⟩⟩ := h4
  exact ⟨⟨p, q, a, b, c, d⟩, rfl, ⟨u8_range a1 a2, u16_range b1 b2, u16_range c1 c2⟩⟩
theorem Fl.of_okRs {cs : List Value} (h : okRs lfF cs) : ∃ f : Fl, cs = f.c := by
  obtain ⟨u1, t1, rfl, h1, h2⟩ := okRs_app h
  obtain ⟨u2, t2, rfl, h3, h4⟩ := okRs_app h2
  obtain ⟨p, rfl⟩ := Ad.of_okRs h1
  obtain ⟨q, rfl⟩ := Ad.of_okRs h3
  obtain ⟨_, _, rfl, ⟨a, rfl, a1, a2⟩, ⟨_, _, rfl, ⟨b, rfl, b1, b2⟩, ⟨_, _, rfl, ⟨c, rfl, c1, c2⟩, rfl⟩⟩⟩ := h4
  exact ⟨⟨p, q, a, b, c⟩, rfl⟩
set_option maxRecDepth 100000 in
theorem Ru.of {w : World} {v : Value} (h : OkV Tryd.prog w Ty.api_Rule v) : ∃ r : Ru, v = .agg r.c.toArray ∧ r.ok := by
  obtain ⟨cs, rfl, h2⟩ := okV_flat h (d := (Tryd.prog.underlying Ty.api_Rule).get (by kernel_rfl)) (ls := lfR) (Option.some_get _).symm (by kernel_rfl) (by kernel_rfl) (by kernel_rfl)
  obtain ⟨r, rfl, h3⟩ := Ru.of_okRs h2
  exact ⟨r, rfl, h3⟩
set_option maxRecDepth 100000 in
theorem Fl.of {w : World} {v : Value} (h : OkV Tryd.prog w Ty.api_Flow v) : ∃ f : Fl, v = .agg f.c.toArray := by
  obtain ⟨cs, rfl, h2⟩ := okV_flat h (d := (Tryd.prog.underlying Ty.api_Flow).get (by kernel_rfl)) (ls := lfF) (Option.some_get _).symm (by kernel_rfl) (by kernel_rfl) (by kernel_rfl)
  obtain ⟨r, rfl⟩ := Fl.of_okRs h2
  exact ⟨r, rfl⟩
theorem Ru.c_inj {a b : Ru} (h : a.c = b.c) : a = b := by
  simp only [Ru.c] at h
  obtain ⟨h1, h2⟩ := List.append_inj h (by simp [Pf.c_length])
  obtain ⟨h3, h4⟩ := List.append_inj h2 (by simp [Pf.c_length])
  have e1 := Pf.c_inj h1
  have e2 := Pf.c_inj h3
  cases a; cases b
  simp only [List.cons.injEq, Value.int.injEq, Value.bool.injEq] at h4
  simp_all
theorem Ru.okCs (r : Ru) : Gx.okCs lfR r.c := okCs_mk r.src.okCs (okCs_mk r.dst.okCs ⟨_, _, rfl, ⟨_, rfl⟩, ⟨_, _, rfl, ⟨_, rfl⟩, ⟨_, _, rfl, ⟨_, rfl⟩, ⟨_, _, rfl, ⟨_, rfl⟩, rfl⟩⟩⟩⟩)
theorem eqRu (a b : Ru) : AggEq Tryd.prog Ty.api_Rule a.c.toArray b.c.toArray (decide (a = b)) := by
  have h := AggEq.flat (P := Tryd.prog) (T := Ty.api_Rule) (d := (Tryd.prog.underlying Ty.api_Rule).get (by kernel_rfl)) (ls := lfR) (Option.some_get _).symm (by kernel_rfl) (by kernel_rfl) (by kernel_rfl) a.okCs b.okCs
  have e : eqVs a.c b.c = decide (a = b) := by
    rw [Bool.eq_iff_iff, eqVs_iff a.okCs b.okCs, decide_eq_true_eq]
    exact ⟨Ru.c_inj, fun h => by rw [h]⟩
  rwa [e] at h

theorem rd_cat {w : World} {A : Addr} {n m i : Nat} {xs ys : List Value} (h1 : rdCells w A i n = some xs) (h2 : rdCells w (A.add (i + n)) 0 m = some ys) : rdCells w A i (n + m) = some (xs ++ ys) := by
  have l1 := rdCells_length h1
  have l2 := rdCells_length h2
  refine rd_of (n + m) i _ (by rw [List.length_append, l1, l2]) fun j v hv => ?_
  rw [List.getElem?_append] at hv
  split at hv
  · exact rdCells_get h1 hv
  · rename_i hj
    have := rdCells_get h2 hv
    rw [add_add] at this
    rwa [show i + n + (0 + (j - xs.length)) = i + j by omega] at this
set_option maxRecDepth 100000 in
theorem rules_of {w : World} {v : Value} (h : OkV Tryd.prog w Ty.Sl_api_Rule v) : ∃ (s : Sl) (rs : List Ru), v = .slice s.a s.len s.cap ∧ s.len ≤ s.cap ∧ s.cap ≤ maxLen ∧ Src 40 w s (rsc rs) ∧ ∀ r ∈ rs, r.ok := by
  obtain ⟨s, rfl, hs⟩ := SliceAt.of h (e := Ty.api_Rule) (by kernel_rfl)
  have hc : Tryd.prog.cellsOf Ty.api_Rule = 40 := by kernel_rfl
  have hcell := hs.cell
  rw [hc] at hcell
  have key : ∀ a, s.a = some a → ∀ n, n ≤ s.len → ∃ rs : List Ru, rdCells w a 0 (n * 40) = some (rsc rs) ∧ ∀ r ∈ rs, r.ok := by
    intro a ha n
    induction n with
    | zero => intro _; exact ⟨[], by simp [rdCells, rsc], fun r hr => by cases hr⟩
    | succ n ih =>
      intro hn
      obtain ⟨rs, h1, h2⟩ := ih (by omega)
      obtain ⟨vs, h3, fuel, h4⟩ := hcell a ha n (by have := hs.le; omega)
      obtain ⟨r, rfl, h5⟩ := Ru.of_okRs (okT_flat 8 (ls := lfR) (by kernel_rfl) (by kernel_rfl) h4)
      refine ⟨rs ++ [r], ?_, fun x hx => ?_⟩
      · rw [Nat.succ_mul]
        have := rd_cat h1 (by rw [Nat.zero_add]; exact h3)
        rw [this, rsc_app]
        congr 2
        show r.c = r.c ++ []
        simp
      · rcases List.mem_append.1 hx with hx | hx
        · exact h2 x hx
        · rw [List.mem_singleton.1 hx]; exact h5
  cases hsa : s.a with
  | none =>
    have h0 : s.len = 0 := by have := hs.nil hsa; have := hs.le; omega
    refine ⟨s, [], by rw [← hsa], hs.le, hs.cap, ⟨by simp [rsc, h0], fun _ => rfl, fun a ha => (by rw [hsa] at ha; cases ha)⟩, fun r hr => by cases hr⟩
  | some a =>
    obtain ⟨rs, h1, h2⟩ := key a hsa s.len (Nat.le_refl _)
    refine ⟨s, rs, by rw [← hsa], hs.le, hs.cap, ⟨rdCells_length h1, fun e => (by rw [hsa] at e; cases e), fun a' ha' => ?_⟩, h2⟩
    rw [hsa] at ha'; cases ha'; exact h1

/-! ### Few -/
theorem buildNone (w : World) : Sem.run Tryd.prog (Instr.buildSlice Ty.Sl_api_Rule 0 #[]) w = .ok (.slice (some ⟨w.heap.size, 0, none⟩) 0 0) (w.alloc (.cells #[] Ty.api_Rule)) := by kernel_rfl
theorem appRule : AppT Tryd.prog Ty.Sl_api_Rule Ty.api_Rule 40 72 := ⟨by kernel_rfl⟩
theorem law32_Few {s : Sl} {rs : List Ru} {w : World} (hs : Src 40 w s (rsc rs)) (hc : s.len ≤ s.cap) : Ret Tryd.prog F.law32_Few #[.slice s.a s.len s.cap] w
    (fun v w' => ∃ s' : Sl, v = .slice s'.a s'.len s'.cap ∧ OwnS 40 Ty.api_Rule w' s' (rsc (rs.take 30)) ∧ Ext w w') := by
  refine W.law32_Few_ok s w _ ?_
  unfold W.law32_Few
  have hl : s.len = rs.length := by have := hs.len; rw [rsc_length] at this; omega
  refine Jn1 (fun s2 w' => w = w' ∧ Src 40 w s2 (rsc (rs.take 30)) ∧ s2.len ≤ 30) (fun q hq => ⟨fun h => ?_, fun h => ?_⟩) ?_
  · have hgt : ((s.len : Nat) : Int) > 30 := of_decide_eq_true h
    refine ⟨⟨by decide, by omega⟩, hq _ _ ⟨rfl, ?_, by show Int.toNat 30 - 0 ≤ 30; decide⟩⟩
    have hA : ∃ A, s.a = some A := by
      cases hsa : s.a with
      | none =>
        have := congrArg List.length (hs.nil hsa)
        rw [rsc_length, List.length_nil] at this
        omega
      | some A => exact ⟨A, rfl⟩
    obtain ⟨A, hA⟩ := hA
    have e : cutA s.a 40 0 s.cap = some A := by
      unfold cutA
      rw [if_neg (by omega), hA]
      simp [add_zero']
    have hlen : (rs.take 30).length = 30 := by rw [List.length_take]; omega
    have hrd : rdCells w A 0 (30 * 40) = some (rsc (rs.take 30)) := by
      have := rd_part (k := 0) (m := 30 * 40) (hs.rd A hA) (by omega)
      rw [add_zero', List.drop_zero] at this
      rw [this]
      congr 1
      have e2 : rsc rs = rsc (rs.take 30) ++ rsc (rs.drop 30) := by rw [← rsc_app, List.take_append_drop]
      rw [e2, List.take_append_of_le_length (by rw [rsc_length, hlen]; exact Nat.le_refl _), List.take_of_length_le (by rw [rsc_length, hlen]; exact Nat.le_refl _)]
    refine ⟨by rw [rsc_length, hlen]; rfl, fun e2 => ?_, fun a ha => ?_⟩
    · rw [show (Sl.mk (cutA s.a 40 0 s.cap) (Int.toNat 30 - 0) (s.cap - 0)).a = cutA s.a 40 0 s.cap from rfl, e] at e2; cases e2
    · rw [show (Sl.mk (cutA s.a 40 0 s.cap) (Int.toNat 30 - 0) (s.cap - 0)).a = cutA s.a 40 0 s.cap from rfl, e] at ha
      cases ha
      exact hrd
  · have hle : ¬ ((s.len : Nat) : Int) > 30 := of_decide_eq_false h
    refine hq _ _ ⟨rfl, ?_, by omega⟩
    rwa [List.take_of_length_le (by omega)]
  rintro s2 _ ⟨rfl, hs2, hl2⟩
  obtain ⟨s', w', h1, h2, h3, h4, h5, h6⟩ := appRule.clone (oT := Ty.Sl_api_Rule) hs2 (rsc_plain _) (by omega)
  exact ⟨⟨some ⟨w.heap.size, 0, none⟩, 0, 0⟩, _, buildNone w, s', w', h1, s', rfl, h2, h4⟩

theorem ref32_First (f : Fl) {s : Sl} {rs : List Ru} {w : World} (hs : RS w s rs) (hn : rs.length ≤ 1000) : Ret Tryd.prog F.ref32_First #[.slice s.a s.len s.cap, .agg f.c.toArray] w (fun v w' => v = .int .i64 (idxR (fun r => hitsR r f) rs) ∧ Ext w w') := by
  refine W.ref32_First_ok s _ w _ ?_
  unfold W.ref32_First
  have hl := hs.len
  refine nxVar (vs := f.c) rfl fun w1 hf hx1 _ => ?_
  have hs1 := hs.ext hx1
  refine ⟨fun i w' => ∃ k : Nat, i = k ∧ k ≤ rs.length ∧ Ext w1 w' ∧ ∀ (j : Nat) (hj : j < k) (h2 : j < rs.length), hitsR rs[j] f = false, fun i _ => (s.len - i).toNat, ⟨0, rfl, Nat.zero_le _, .refl _ _, fun j hj => by omega⟩, ?_⟩
  rintro _ w4 ⟨k, rfl, hk, hx4, hno⟩
  refine ⟨fun h => ?_, fun h => ?_⟩
  · have hlt : (k : Int) < ((s.len : Nat) : Int) := of_decide_eq_true h
    have hlt : k < rs.length := by omega
    have hd : Ext w4 w4.drew := Chg.drew (.refl _ _)
    have hx5 := Ext.trans hx4 hd
    obtain ⟨A, hA, hb, hr⟩ := (hs1.ext hx5).get hlt
    refine nx ⟨A, hA, hb, id, _, hr, id, _, (hf.ext hx5).rd f.c_length, (ref32_Hits _ f _).use ?_⟩
    rintro _ w7 ⟨rfl, hx7⟩
    have hX7 := Ext.trans hx5 hx7
    have hms : (((s.len : Nat) : Int) - ((k : Int) + 1)).toNat < (((s.len : Nat) : Int) - (k : Int)).toNat := by omega
    refine ⟨_, rfl, fun h => ⟨by rw [idxR_some hlt h (fun j hj => hno j hj (by omega))], Ext.trans hx1 hX7⟩, fun h => ?_⟩
    rw [wrapi (n := (k : Int) + 1) (by omega) (by omega)]
    refine ⟨⟨k + 1, by omega, hlt, hX7, fun j hj h2 => ?_⟩, hms⟩
    rcases Nat.lt_or_ge j k with h3 | h3
    · exact hno j h3 h2
    · have : j = k := by omega
      subst this; exact h
  · have hge : ¬((k : Int) < ((s.len : Nat) : Int)) := of_decide_eq_false h
    exact ⟨by rw [idxR_none (fun j hj => hno j (by omega) hj)], Ext.trans hx1 hx4⟩

theorem law_AclHits {s : Sl} {rs0 : List Ru} (f : Fl) (w : World) (ht : Tab2 w) (hs : Src 40 w s (rsc rs0)) (hc : s.len ≤ s.cap) : Ret Tryd.prog F.law32_AclHits #[.slice s.a s.len s.cap, .agg f.c.toArray] w (fun v w' => v = .bool true ∧ Ext w w') := by
  refine W.law32_AclHits_ok s _ w _ ?_
  unfold W.law32_AclHits
  refine nxVar (vs := f.c) rfl fun w1 hf hx1 _ => (law32_Few (hs.ext hx1) hc).use ?_
  rintro _ w2 ⟨s4, rfl, ho4, hx2⟩
  obtain ⟨rs, hrs⟩ : ∃ rs, rs = rs0.take 30 := ⟨_, rfl⟩
  rw [← hrs] at ho4
  have hn : rs.length ≤ 30 := by rw [hrs, List.length_take]; omega
  have hd : Ext w2 w2.drew := Chg.drew (.refl _ _)
  have hX5 := Ext.trans (Ext.trans hx1 hx2) hd
  have hf5 := (hf.ext hx2).ext hd
  have ho5 := ho4.ext hd
  have hl4 : s4.len = rs.length := (RS.of ho5.src).len
  refine ⟨s4, rfl, nx ⟨fun _ => False, id, _, hf5.rd f.c_length, (law32_Few ho5.src ho5.2.1).use ?_⟩⟩
  rintro _ w8 ⟨s10, rfl, ho10, hx8⟩
  have et : rs.take 30 = rs := List.take_of_length_le hn
  rw [et] at ho10
  have hX8 := Ext.trans hX5 hx8
  have hf8 := hf5.ext hx8
  refine ⟨s10, rfl, hx8, (acl_First f (RS.of ho10.src) (by omega) (ht.ext hX8)).use ?_⟩
  rintro _ w11 ⟨rfl, hx11⟩
  have hX11 := Ext.trans hX8 hx11
  have hf11 := hf8.ext hx11
  have hr11 : RS w11 s4 rs := (RS.of ((ho5.ext hx8).ext hx11).src)
  refine ⟨_, _, rfl, _, hf11.rd f.c_length, (ref32_First f hr11 (by omega)).use ?_⟩
  rintro _ w16 ⟨rfl, hx16⟩
  have hX16 := Ext.trans hX11 hx16
  have hr16 := hr11.ext hx16
  have hf16 := hf11.ext hx16
  refine ⟨_, rfl, Jn1 (fun b w' => w16 = w' ∧ b = false) (fun q hq => ⟨fun h => by simp at h, fun _ => ?_⟩) ?_⟩
  · refine Jn1 (fun b w' => w16 = w' ∧ b = (decide (idxR (fun r => hitsR r f) rs < 0) || (rs[(idxR (fun r => hitsR r f) rs).toNat]?.map Ru.allow).getD false)) (fun q2 hq2 => ⟨fun h => hq2 _ _ ⟨rfl, by rw [h]; rfl⟩, fun h => ?_⟩) ?_
    · rcases idxR_cases (fun r => hitsR r f) rs with ⟨k, hk, he, _, _⟩ | ⟨he, _⟩
      · rw [he] at hq2 ⊢
        obtain ⟨A, hA, hb, hr⟩ := hr16.get hk
        have hcell := rdCells_get hr (j := 39) (v := .bool (rs[k]).allow) (by simp [Ru.c, List.getElem?_append, Pf.c_length])
        refine ⟨A, hA, hb, (rs[k]).allow, hcell, hq2 _ _ ⟨rfl, ?_⟩⟩
        have : ¬ (k : Int) < 0 := by omega
        simp [hk, this]
      · rw [he] at h; simp at h
    · rintro _ _ ⟨rfl, rfl⟩
      exact hq _ _ ⟨rfl, by simp⟩
  rintro _ _ ⟨rfl, rfl⟩
  refine ⟨fun h => (by cases h), fun _ => ⟨fun i w' => ∃ k : Nat, i = k ∧ k ≤ rs.length ∧ Ext w16 w', fun i _ => (s4.len - i).toNat, ⟨0, rfl, Nat.zero_le _, .refl _ _⟩, ?_⟩⟩
  rintro _ w30 ⟨k, rfl, hk, hx30⟩
  refine ⟨fun h => ?_, fun h => ?_⟩
  · have hlt : (k : Int) < ((s4.len : Nat) : Int) := of_decide_eq_true h
    have hlt : k < rs.length := by omega
    have hd : Ext w30 w30.drew := Chg.drew (.refl _ _)
    have hx31 := Ext.trans hx30 hd
    have hX31 := Ext.trans hX16 hx31
    have hf31 := hf16.ext hx31
    obtain ⟨A, hA, hb, hr⟩ := (hr16.ext hx31).get hlt
    refine nx ⟨fun _ => False, A, hA, hb, id, _, hr, id, _, hf31.rd f.c_length, A, hA, hb, id, _, hr, id, _, hf31.rd f.c_length, (acl_Hits _ f _ (ht.ext hX31)).use ?_⟩
    rintro _ w39 ⟨rfl, hx39⟩
    refine ⟨_, rfl, hx39, (ref32_Hits _ f w39).use ?_⟩
    rintro _ w42 ⟨rfl, hx42⟩
    have hx42' := Ext.trans hx31 (Ext.trans hx39 hx42)
    obtain ⟨A, hA, hb, hr⟩ := (hr16.ext hx42').get hlt
    refine ⟨_, rfl, hx42, fun h => by simp at h, fun _ => ⟨A, hA, hb, id, _, hr, A, hA, hb, id, _, hr, (acl_Good _ w42 (ht.ext (Ext.trans hX16 hx42'))).use ?_⟩⟩
    rintro _ w49 ⟨rfl, hx49⟩
    refine ⟨_, rfl, hx49, (ref32_Good _ w49).use ?_⟩
    rintro _ w52 ⟨rfl, hx52⟩
    have hms : (((s4.len : Nat) : Int) - ((k : Int) + 1)).toNat < (((s4.len : Nat) : Int) - (k : Int)).toNat := by omega
    refine ⟨_, rfl, fun h => by simp at h, fun _ => ?_⟩
    rw [wrapi (n := (k : Int) + 1) (by omega) (by omega)]
    exact ⟨⟨k + 1, by omega, hlt, Ext.trans hx42' (Ext.trans hx49 hx52)⟩, hms⟩
  · refine (lives32 w30 (ht.ext (Ext.trans hX16 hx30))).use ?_
    rintro _ w55 ⟨rfl, hx55⟩
    exact ⟨_, rfl, rfl, Ext.trans (Ext.trans hX16 hx30) hx55⟩

theorem tab2H_of {w : World} {l : List (String × DataW Unit)} (h : laidMetH Tryd.prog l w) (hp : (l.all fun x => x.2.handleName?.isNone) = true) (h1 : l[1]? = some ("math/bits.deBruijn64tab", Rows.laid_math_bits_deBruijn64tab)) (h2 : l[2]? = some ("internal/strconv.uint64pow10", Rows.laid_internal_strconv_uint64pow10)) : Tab2 w := by
  rw [MakeChecks.laidMetH_plain _ _ _ hp] at h
  exact tab2_of h h1 h2

end Go.Proofs.YtcjpgabpihkcjaaDoor
