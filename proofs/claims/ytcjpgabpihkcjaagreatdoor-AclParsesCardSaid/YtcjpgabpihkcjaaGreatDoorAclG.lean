/- A rule read from its text; the laws of a rule's text. -/
import Derived.Test.YtcjpgabpihkcjaaGreatDoorAclD
namespace Go.Proofs.YtcjpgabpihkcjaaGreatDoor
open Go Gx

set_option maxHeartbeats 2000000 in
theorem mkRu (p q : Pf) (n a b : Int) (x : Bool) (w : World) : Sem.run Tryz.prog (Instr.build Ty.api_Rule #[(0, .agg p.c.toArray), (1, .agg q.c.toArray), (2, .int .u8 n), (3, .int .u16 a), (4, .int .u16 b), (5, .bool x)]) w = .ok (.agg (Ru.mk p q n a b x).c.toArray) w := by
  obtain ⟨⟨six, l, h⟩, m⟩ := p
  obtain ⟨⟨six2, l2, h2⟩, m2⟩ := q
  obtain ⟨x0, x1, x2, x3, x4, x5, x6, x7, x8, x9, x10, x11, x12, x13, x14, x15, rfl⟩ := list16 l h
  obtain ⟨y0, y1, y2, y3, y4, y5, y6, y7, y8, y9, y10, y11, y12, y13, y14, y15, rfl⟩ := list16 l2 h2
  kernel_rfl
def rz' : Ru := ⟨Pf.zero, Pf.zero, 0, 0, 0, false⟩
theorem mkRz (w : World) : Sem.run Tryz.prog (Instr.build Ty.api_Rule #[]) w = .ok (.agg rz'.c.toArray) w := by kernel_rfl

/-! ### Words -/
theorem showA_no32 (a : Ad) : (32 : UInt8) ∉ showA a := by
  unfold showA
  split
  · split
    · intro h
      rcases mem_joinB h with h | ⟨l, hl, h⟩
      · exact absurd h (by decide)
      · obtain ⟨i, _, rfl⟩ := List.mem_map.1 hl
        exact numB_no (by decide) _ (.inr (.inr (.inr (.inl rfl)))) h
    · intro h
      rcases mem_joinB h with h | ⟨l, hl, h⟩
      · exact absurd h (by decide)
      · obtain ⟨c, _, rfl⟩ := List.mem_map.1 hl
        exact numB_no (by decide) _ (.inr (.inr (.inr (.inl rfl)))) h
  · intro h; cases h
theorem num_no32 (n : Nat) : (32 : UInt8) ∉ numB 10 n := numB_no (by decide) _ (.inr (.inr (.inr (.inl rfl))))
theorem num_no45 (n : Nat) : (45 : UInt8) ∉ numB 10 n := numB_no (by decide) _ (.inr (.inr (.inr (.inr (.inl rfl)))))
theorem showP_no32 (p : Pf) : (32 : UInt8) ∉ showP p := by
  unfold showP
  split
  · intro h
    rcases List.mem_append.1 h with h | h
    · exact showA_no32 _ h
    · rcases List.mem_cons.1 h with h | h
      · exact absurd h (by decide)
      · exact num_no32 _ h
  · intro h; cases h
theorem proto_no32 (p : Int) : (32 : UInt8) ∉ protoB p := by
  unfold protoB
  split
  · decide
  split
  · decide
  split
  · decide
  exact num_no32 _
theorem words_no32 (r : Ru) : ∀ l ∈ wordsR r, (32 : UInt8) ∉ l := by
  intro l hl
  unfold wordsR at hl
  simp only [List.mem_cons, List.not_mem_nil, or_false] at hl
  rcases hl with rfl | rfl | rfl | rfl | rfl
  · split <;> decide
  · exact proto_no32 _
  · exact showP_no32 _
  · exact showP_no32 _
  · intro h
    rcases List.mem_append.1 h with h | h
    · rcases List.mem_append.1 h with h | h
      · exact num_no32 _ h
      · exact absurd h (by decide)
    · exact num_no32 _ h
theorem split_show {r : Ru} {l : List UInt8} (hg : goodR r = true) (h : showR r = l) : splitB 32 l = wordsR r := by
  rw [← h]
  unfold showR
  rw [if_pos hg]
  exact split_join (by unfold wordsR; simp) (words_no32 r)
theorem showR_ne {r : Ru} (h : showR r ≠ []) : goodR r = true := by
  unfold showR at h
  split at h
  · assumption
  · exact absurd rfl h
theorem showR_good {r : Ru} (h : goodR r = true) : showR r ≠ [] := by
  intro e
  have := split_show h rfl
  rw [e] at this
  have := congrArg List.length this
  simp [wordsR, splitB] at this
theorem num_word (n : Nat) {c : UInt8} (h : 102 < c.toNat) : c ∉ numB 10 n := by
  intro hc
  have := numB_sign (b := 10) (by decide) n c hc
  omega

theorem acl_number (l : List UInt8) (k : Nat) (hl : l.length ≤ 10000) (hk : 1 ≤ k ∧ k ≤ 64) (w : World) (ht : Tabs w) : Ret Tryz.prog F.acl_number #[.string (S l), .int .i64 (k : Nat)] w
    (fun v w' => ∃ (n : Int) (b : Bool), v = .tuple #[.int .u64 n, .bool b] ∧ (∀ m : Nat, m ≤ 2 ^ k - 1 → l = numB 10 m → n = m ∧ b = true) ∧ Ext w w') := by
  refine W.acl_number_ok (S l) _ w _ ?_
  unfold W.acl_number
  refine (ParseUint l 10 k (by omega) (.inl rfl) hk w ht.errs).use ?_
  rintro v w1 ⟨hv, hx1⟩
  have hd : Ext w1 w1.drew := Chg.drew (.refl _ _)
  cases hp : parseB 10 (2 ^ k - 1) l with
  | some n =>
    rw [hp] at hv
    have hv : v = .tuple #[.int .u64 ((n : Nat) : Int), .nilIface] := hv
    subst hv
    refine ⟨_, _, rfl, nx ⟨true, rfl, _, _, rfl, fun m hm he => ⟨?_, rfl⟩, Ext.trans hx1 hd⟩⟩
    rw [he, parseB_num 10 _ (by decide) (by decide) m hm] at hp
    cases hp; rfl
  | none =>
    rw [hp] at hv
    obtain ⟨m, t, x, rfl⟩ := hv
    refine ⟨_, _, rfl, nx ⟨false, rfl, _, _, rfl, fun m hm he => ?_, Ext.trans hx1 hd⟩⟩
    rw [he, parseB_num 10 _ (by decide) (by decide) m hm] at hp
    cases hp

theorem acl_unproto (l : List UInt8) (hl : l.length ≤ 10000) (w : World) (ht : Tabs w) : Ret Tryz.prog F.acl_unproto #[.string (S l)] w
    (fun v w' => ∃ (n : Int) (b : Bool), v = .tuple #[.int .u8 n, .bool b] ∧ (0 ≤ n ∧ n ≤ 255) ∧ (∀ p : Int, 0 ≤ p → p ≤ 255 → l = protoB p → n = p ∧ b = true) ∧ Ext w w') := by
  refine W.acl_unproto_ok (S l) w _ ?_
  unfold W.acl_unproto
  have e1 : ByteArray.toList (ByteArray.mk #[97, 110, 121]) = [97, 110, 121] := S_toList [97, 110, 121]
  have e2 : ByteArray.toList (ByteArray.mk #[116, 99, 112]) = [116, 99, 112] := S_toList [116, 99, 112]
  have e3 : ByteArray.toList (ByteArray.mk #[117, 100, 112]) = [117, 100, 112] := S_toList [117, 100, 112]
  rw [S_toList, e1, e2, e3]
  have hnum : ∀ p : Int, ∀ c : UInt8, 102 < c.toNat → c ∈ l → l = protoB p → p = 0 ∨ p = 6 ∨ p = 17 := by
    intro p c hc hm he
    unfold protoB at he
    split at he
    · exact .inl ‹_›
    split at he
    · exact .inr (.inl ‹_›)
    split at he
    · exact .inr (.inr ‹_›)
    rw [he] at hm
    exact absurd hm (num_word _ hc)
  refine ⟨fun h => ⟨0, true, rfl, by decide, fun p h0 h1 he => ⟨?_, rfl⟩, .refl _ _⟩, fun h0 => ⟨fun h => ⟨6, true, rfl, by decide, fun p h0 h1 he => ⟨?_, rfl⟩, .refl _ _⟩, fun h1 => ⟨fun h => ⟨17, true, rfl, by decide, fun p h0 h1 he => ⟨?_, rfl⟩, .refl _ _⟩, fun h2 => ?_⟩⟩⟩
  · have h := eq_of_beq h
    rcases hnum p 110 (by decide) (by rw [h]; decide) he with rfl | rfl | rfl
    · rfl
    · rw [h] at he; exact absurd he (by decide)
    · rw [h] at he; exact absurd he (by decide)
  · have h := eq_of_beq h
    rcases hnum p 116 (by decide) (by rw [h]; decide) he with rfl | rfl | rfl
    · rw [h] at he; exact absurd he (by decide)
    · rfl
    · rw [h] at he; exact absurd he (by decide)
  · have h := eq_of_beq h
    rcases hnum p 117 (by decide) (by rw [h]; decide) he with rfl | rfl | rfl
    · rw [h] at he; exact absurd he (by decide)
    · rw [h] at he; exact absurd he (by decide)
    · rfl
  · refine (acl_number l 8 hl (by decide) w ht).use ?_
    rintro _ w1 ⟨n, b, rfl, hn, hx1⟩
    refine ⟨n, b, rfl, _, b, rfl, by rw [wr8m]; omega, fun p p0 p1 he => ?_, hx1⟩
    have n0 : p ≠ 0 := by rintro rfl; rw [he] at h0; exact absurd h0 (by decide)
    have n6 : p ≠ 6 := by rintro rfl; rw [he] at h1; exact absurd h1 (by decide)
    have n17 : p ≠ 17 := by rintro rfl; rw [he] at h2; exact absurd h2 (by decide)
    unfold protoB at he
    rw [if_neg n0, if_neg n6, if_neg n17] at he
    obtain ⟨h3, h4⟩ := hn p.toNat (by show p.toNat ≤ 255; omega) he
    refine ⟨?_, h4⟩
    rw [wr8m, h3]; omega

theorem split_len' {c : UInt8} {l p : List UInt8} (h : p ∈ splitB c l) : p.length ≤ l.length := split_len p h
theorem acl_Parse (l : List UInt8) (hl : l.length ≤ 10000) (w : World) (ht : Tabs w) : Ret Tryz.prog F.acl_Parse #[.string (S l)] w
    (fun v w' => ∃ o : Option Ru, v = .tuple #[.agg (o.getD rz').c.toArray, .bool o.isSome] ∧ (∀ x, o = some x → x.ok ∧ goodR x = true ∧ showR x = l ∧ l ≠ []) ∧ (∀ r : Ru, r.ok → goodR r = true → showR r = l → o = some r) ∧ Ext w w') := by
  refine W.acl_Parse_ok (S l) w _ ?_
  unfold W.acl_Parse
  refine nxVar (vs := rz'.c) (by kernel_rfl) fun w1 hv hx1 hz1 => (Split1 l 32 (by omega) w1).use ?_
  rintro _ w2 ⟨s4, rfl, hl4, hs4, hx2⟩
  have hX2 := Ext.trans hx1 hx2
  have hv2 := hv.ext hx2
  refine ⟨s4, rfl, fun h => ?_, fun h => ?_⟩
  · refine ⟨_, mkRz _, hv2.storeOk rfl (Ru.plain _), rfl, nxPut hv2 (us := rz'.c) rfl rfl fun w6 hv6 hc6 _ => ⟨_, hv6.rd (Ru.c_length _), none, rfl, fun x hx => (by cases hx), fun r hr hg he => ?_, Ext.of_chg hX2 hc6 (Nat.le_refl _)⟩⟩
    have h5 := congrArg List.length (split_show hg he)
    rw [← hl4] at h5
    rw [h5, show (wordsR r).length = 5 from rfl] at h
    exact absurd h (by decide)
  have h5 : s4.len = 5 := by simp at h; omega
  have hmem : ∀ p ∈ splitB 32 l, p.length ≤ l.length := fun p hp => split_len' hp
  obtain ⟨v0, v1, v2, v3, v4, hsp⟩ : ∃ v0 v1 v2 v3 v4, splitB 32 l = [v0, v1, v2, v3, v4] := by
    rw [hl4] at h5
    match splitB 32 l, h5 with
    | [a, b, c, d, e], _ => exact ⟨a, b, c, d, e, rfl⟩
  rw [hsp] at hs4 hmem
  have m1 := hmem v1 (by simp)
  have m2 := hmem v2 (by simp)
  have m3 := hmem v3 (by simp)
  have m4 := hmem v4 (by simp)
  have hlne : l ≠ [] := by
    rintro rfl
    simp [splitB] at hsp
  obtain ⟨A, hA⟩ : ∃ A, s4.a = some A := by
    cases hsa : s4.a with
    | none => have := hs4.nil hsa; simp [strs] at this
    | some A => exact ⟨A, rfl⟩
  have hcell : ∀ w', Ext w2 w' → ∀ (j : Nat) (p : List UInt8), [v0, v1, v2, v3, v4][j]? = some p → w'.cell? (A.add j) = some (.string (S p)) := by
    intro w' hx j p hp
    have := rdCells_get ((hs4.ext hx).rd A hA) (j := j) (v := .string (S p)) (by unfold strs; rw [List.getElem?_map, hp]; rfl)
    rwa [Nat.zero_add] at this
  refine ⟨A, hA, ⟨by decide, by omega⟩, _, hcell w2 (.refl _ _) 1 v1 rfl, (acl_unproto v1 (by omega) w2 (ht.ext hX2)).use ?_⟩
  rintro _ w10 ⟨n12, b13, rfl, hn12, hp12, hx10⟩
  have hX10 := Ext.trans hX2 hx10
  refine ⟨_, _, rfl, A, hA, ⟨by decide, by omega⟩, _, hcell w10 hx10 2 v2 rfl, (addr_ParsePrefix v2 (by omega) w10 (ht.ext hX10)).use ?_⟩
  rintro _ w16 ⟨rfl, hx16⟩
  have hX16 := Ext.trans hX10 hx16
  have hy16 := Ext.trans hx10 hx16
  refine ⟨_, _, rfl, nxVar (vs := Pf.zero.c) rfl fun w20 hp hx20 _ => ⟨hp.storeOk (by simp [Pf.c_length]) (Pf.plain _), by simp [Pf.c_length], nxPut hp (us := ((parseP v2).getD Pf.zero).c) (by simp [Pf.c_length]) rfl fun w21 hp21 hc21 _ => ?_⟩⟩
  have hx21 : Ext w16 w21 := Ext.of_chg hx20 hc21 (Nat.le_refl _)
  have hX21 := Ext.trans hX16 hx21
  have hy21 := Ext.trans hy16 hx21
  refine ⟨A, hA, ⟨by decide, by omega⟩, _, hcell w21 hy21 3 v3 rfl, (addr_ParsePrefix v3 (by omega) w21 (ht.ext hX21)).use ?_⟩
  rintro _ w24 ⟨rfl, hx24⟩
  have hX24 := Ext.trans hX21 hx24
  have hy24 := Ext.trans hy21 hx24
  refine ⟨_, _, rfl, nxVar (vs := Pf.zero.c) rfl fun w28 hq hx28 _ => ⟨hq.storeOk (by simp [Pf.c_length]) (Pf.plain _), by simp [Pf.c_length], nxPut hq (us := ((parseP v3).getD Pf.zero).c) (by simp [Pf.c_length]) rfl fun w29 hq29 hc29 _ => ?_⟩⟩
  have hx29 : Ext w24 w29 := Ext.of_chg hx28 hc29 (Nat.le_refl _)
  have hX29 := Ext.trans hX24 hx29
  have hy29 := Ext.trans hy24 hx29
  have hcl : (cutB 45 v4).1.length ≤ v4.length ∧ (cutB 45 v4).2.1.length ≤ v4.length := by
    unfold cutB
    split
    · simp; omega
    · simp
  refine ⟨A, hA, ⟨by decide, by omega⟩, _, hcell w29 hy29 4 v4 rfl, (Cut1 v4 45 (by omega) w29).use ?_⟩
  rintro _ w32 ⟨rfl, hx32⟩
  have hX32 := Ext.trans hX29 hx32
  refine ⟨_, _, _, rfl, (acl_number (cutB 45 v4).1 16 (by omega) (by decide) w32 (ht.ext hX32)).use ?_⟩
  rintro _ w37 ⟨n39, b40, rfl, hn39, hx37⟩
  have hX37 := Ext.trans hX32 hx37
  refine ⟨_, _, rfl, (acl_number (cutB 45 v4).2.1 16 (by omega) (by decide) w37 (ht.ext hX37)).use ?_⟩
  rintro _ w41 ⟨n43, b44, rfl, hn43, hx41⟩
  have hd : Ext w41 w41.drew := Chg.drew (.refl _ _)
  have hx45 : Ext w29 w41.drew := Ext.trans (Ext.trans (Ext.trans hx32 hx37) hx41) hd
  have hX45 := Ext.trans hX29 hx45
  have hy45 := Ext.trans hy29 hx45
  have hp45 := ((hp21.ext hx24).ext hx29).ext hx45
  have hq45 := hq29.ext hx45
  have eal : ByteArray.toList (ByteArray.mk #[97, 108, 108, 111, 119]) = [97, 108, 108, 111, 119] := S_toList [97, 108, 108, 111, 119]
  obtain ⟨r, hr⟩ : ∃ r : Ru, r = ⟨(parseP v2).getD Pf.zero, (parseP v3).getD Pf.zero, n12, IntKind.wrap .u16 n39, IntKind.wrap .u16 n43, v0 == [97, 108, 108, 111, 119]⟩ := ⟨_, rfl⟩
  have hrok : r.ok := by rw [hr]; exact ⟨hn12, by simp only [wr16m]; omega, by simp only [wr16m]; omega⟩
  have hv45 := hv2.ext hy45
  refine ⟨_, _, rfl, nx ⟨fun _ => False, id, _, hp45.rd (Pf.c_length _), id, _, hq45.rd (Pf.c_length _), A, hA, ⟨by decide, by omega⟩, id, _, hcell _ hy45 0 v0 rfl, r.c.toArray, fun w52 => ?_, nxVar (vs := rz'.c) (by kernel_rfl) fun w53 hu hx53 _ => ⟨hx53, hu.storeOk (by simp [Ru.c_length]) (Ru.plain _), by simp [Ru.c_length], nxPut hu (us := r.c) (by simp [Ru.c_length]) rfl fun w54 hu54 hc54 _ => ?_⟩⟩⟩
  · rw [S_toList, eal, hr]
    exact mkRu _ _ _ _ _ _ w52
  have hx54 : Ext w41.drew w54 := Ext.of_chg hx53 hc54 (Nat.le_refl _)
  have hX54 := Ext.trans hX45 hx54
  have hv54 := hv45.ext hx54
  have hfull : ∀ r' : Ru, r'.ok → goodR r' = true → showR r' = l → b13 = true ∧ (parseP v2).isSome = true ∧ (parseP v3).isSome = true ∧ b40 = true ∧ b44 = true ∧ r = r' := by
    intro r' hok hg he
    have hw := split_show hg he
    rw [hsp] at hw
    unfold wordsR at hw
    simp only [List.cons.injEq] at hw
    obtain ⟨w0, w1', w2', w3', w4', _⟩ := hw
    have hgg := hg
    unfold goodR gP inP at hgg
    simp only [Bool.and_eq_true, decide_eq_true_eq] at hgg
    have k2 : parseP v2 = some r'.src := by
      rw [w2']; exact parseP_show (by unfold showP; rw [if_pos hgg.1.1.1]; simp)
    have k3 : parseP v3 = some r'.dst := by
      rw [w3']; exact parseP_show (by unfold showP; rw [if_pos hgg.1.1.2]; simp)
    have kc : cutB 45 v4 = (numB 10 r'.low.toNat, numB 10 r'.high.toNat, true) := by
      rw [w4', List.append_assoc, List.singleton_append, cut_app _ (num_no45 _)]
    have hol := hok.l
    have hoh := hok.h
    obtain ⟨q1, q2⟩ := hp12 r'.proto hok.p.1 hok.p.2 w1'
    obtain ⟨q3, q4⟩ := hn39 r'.low.toNat (by show r'.low.toNat ≤ 65535; omega) (by rw [kc])
    obtain ⟨q5, q6⟩ := hn43 r'.high.toNat (by show r'.high.toNat ≤ 65535; omega) (by rw [kc])
    refine ⟨q2, by rw [k2]; rfl, by rw [k3]; rfl, q4, q6, ?_⟩
    have ea : (v0 == [97, 108, 108, 111, 119]) = r'.allow := by
      rw [w0]
      cases r'.allow <;> decide
    rw [hr, k2, k3, q1, ea]
    simp only [wr16m, Option.getD_some]
    have z1 : n39 % 65536 = r'.low := by omega
    have z2 : n43 % 65536 = r'.high := by omega
    rw [z1, z2]
  refine Jn1 (fun b w' => Ext w54 w' ∧ (b = true → ∀ r' : Ru, r'.ok → goodR r' = true → showR r' ≠ l) ∧ (b = false → showR r = l)) (fun q hq => ⟨fun h => hq _ _ ⟨.refl _ _, fun _ r' hok hg he => ?_, fun h => (by cases h)⟩, fun h => ?_⟩) ?_
  · obtain ⟨a1, a2, a3, a4, a5, _⟩ := hfull r' hok hg he
    rw [a1, a2, a3, a4, a5] at h
    exact absurd h (by decide)
  · refine ⟨_, hu54.rd (Ru.c_length _), (acl_show hrok w54 (ht.ext hX54).tab).use ?_⟩
    rintro _ w57 ⟨rfl, hx57⟩
    refine ⟨_, rfl, hq _ _ ⟨hx57, fun h r' hok hg he => ?_, fun h => ?_⟩⟩
    · obtain ⟨_, _, _, _, _, a6⟩ := hfull r' hok hg he
      rw [a6, S_beq, he] at h
      simp at h
    · rw [S_beq] at h
      simpa using h
  rintro b60 w61 ⟨hx61, hb1, hb2⟩
  have hX61 := Ext.trans hX54 hx61
  have hv61 := hv54.ext hx61
  refine ⟨fun h => ?_, fun h => ?_⟩
  · exact ⟨_, mkRz _, hv61.storeOk rfl (Ru.plain _), rfl, nxPut hv61 (us := rz'.c) rfl rfl fun w6 hv6 hc6 _ => ⟨_, hv6.rd (Ru.c_length _), none, rfl, fun x hx => (by cases hx), fun r' hr' hg he => absurd he (hb1 h r' hr' hg), Ext.of_chg hX61 hc6 (Nat.le_refl _)⟩⟩
  · have hs := hb2 h
    have hg : goodR r = true := showR_ne (by rw [hs]; exact hlne)
    refine ⟨_, (hu54.ext hx61).rd (Ru.c_length _), hv61.storeOk (by simp [Ru.c_length]) (Ru.plain _), by simp [Ru.c_length], nxPut hv61 (us := r.c) (by simp [Ru.c_length]) rfl fun w6 hv6 hc6 _ => ⟨_, hv6.rd (Ru.c_length _), some r, rfl, fun x hx => (by cases hx; exact ⟨hrok, hg, hs, hlne⟩), fun r' hr' hg' he => ?_, Ext.of_chg hX61 hc6 (Nat.le_refl _)⟩⟩
    rw [(hfull r' hr' hg' he).2.2.2.2.2]

end Go.Proofs.YtcjpgabpihkcjaaGreatDoor
