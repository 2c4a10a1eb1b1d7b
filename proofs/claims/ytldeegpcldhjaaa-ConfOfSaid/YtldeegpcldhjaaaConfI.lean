/- Services in rows; bare, rises, lays, good. -/
import Derived.Test.YtldeegpcldhjaaaConfH
namespace Go.Proofs.Ytldeegpcldhjaaa
open Go Gx

variable {w w' : World} {fm : Fm} {R : List Rec} {r : Rec}

/-- What is read of a row stays where the row's block does. -/
theorem Src.chg' {sz : Nat} {s : Sl} {vs : List Value} {W : Nat → Prop} (h : Src sz w s vs) (hc : Chg W w w') (hn : ∀ k, ownB s k → k < w.heap.size → ¬ W k) : Src sz w' s vs := by
  refine ⟨h.len, h.nil, fun a ha => ?_⟩
  have hr := h.rd a ha
  cases hv : vs with
  | nil =>
    have h0 := h.len
    rw [hv] at h0
    simp only [List.length_nil] at h0
    rw [← h0]; rfl
  | cons v us =>
    have hl : vs.length = s.len * sz := h.len
    have hc0 : w.cell? (a.add (0 + 0)) = some v := rdGet hr (by rw [hv]; rfl)
    have hlt : a.block < w.heap.size := by
      rw [Nat.add_zero, add_zero'] at hc0
      rcases Nat.lt_or_ge a.block w.heap.size with h1 | h1
      · exact h1
      · have : w.heap[a.block]? = none := by simp [h1]
        simp [World.cell?, this] at hc0
    rw [← hv]
    exact hc.rdCells (hn a.block ⟨a, ha, rfl⟩ hlt) _ _ _ hr

/-! ### Services in rows -/
structure SM where
  s : Sv
  k : Sl
  bs : List Bk
def SM.ab (x : SM) : SB := (x.s, x.bs)
def smC (X : List SM) : List Value := (X.map fun x => x.s.c x.k).flatten
theorem smC_cons (x : SM) (X : List SM) : smC (x :: X) = x.s.c x.k ++ smC X := rfl
theorem smC_app (X Y : List SM) : smC (X ++ Y) = smC X ++ smC Y := by simp [smC]
theorem smC_one (x : SM) : smC [x] = x.s.c x.k := by simp [smC]
theorem smC_length : ∀ X : List SM, (smC X).length = X.length * 23
  | [] => rfl
  | x :: X => by rw [smC_cons, List.length_append, smC_length X, Sv.c_length, List.length_cons]; omega
theorem smC_drop : ∀ (X : List SM) (i : Nat), (smC X).drop (i * 23) = smC (X.drop i)
  | [], i => by simp [smC]
  | x :: X, 0 => by simp
  | x :: X, i + 1 => by
    rw [smC_cons, List.drop_append, List.drop_of_length_le (by rw [Sv.c_length]; omega), Sv.c_length, show (i + 1) * 23 - 23 = i * 23 by omega, smC_drop X i]; rfl
theorem smC_plain (X : List SM) : ∀ v ∈ smC X, Plain v := by
  intro v hv
  obtain ⟨x, hx, hv⟩ := List.mem_flatten.1 hv
  obtain ⟨b, _, rfl⟩ := List.mem_map.1 hx
  exact b.s.plain b.k v hv
structure SvL (w : World) (t : Sl) (X : List SM) : Prop where
  src : Src 23 w t (smC X)
  bk : ∀ x ∈ X, BR w x.k x.bs
  few : ∀ x ∈ X, x.bs.length ≤ 1000
  lim : X.length ≤ 1000
def svB (t : Sl) (X : List SM) (q : Nat) : Prop := ownB t q ∨ ∃ x ∈ X, ownB x.k q
variable {t : Sl} {X : List SM}
theorem SvL.len (h : SvL w t X) : t.len = X.length := by have := h.src.len; rw [smC_length] at this; omega
theorem SvL.chg {W : Nat → Prop} (h : SvL w t X) (hc : Chg W w w') (hn : ∀ q, svB t X q → q < w.heap.size → ¬ W q) : SvL w' t X :=
  ⟨Src.chg' h.src hc fun k hk => hn k (.inl hk), fun x hx => Src.chg' (h.bk x hx) hc fun k hk => hn k (.inr ⟨x, hx, hk⟩), h.few, h.lim⟩
theorem SvL.ext (h : SvL w t X) (hc : Ext w w') : SvL w' t X := h.chg hc fun _ _ _ h => h
theorem SvL.get (h : SvL w t X) {i : Nat} (hi : i < X.length) : ∃ A, t.a = some A ∧ ((0 : Int) ≤ (i : Int) ∧ (i : Int) < ((t.len : Nat) : Int)) ∧ rdCells w (A.add (Int.toNat (i : Int) * 23)) 0 23 = some ((X[i]).s.c (X[i]).k) := by
  have hl := h.len
  cases ha : t.a with
  | none =>
    have := congrArg List.length (h.src.nil ha)
    rw [smC_length, List.length_nil] at this
    omega
  | some A =>
    refine ⟨A, rfl, ⟨by omega, by omega⟩, ?_⟩
    rw [Int.toNat_natCast, rdPart (h.src.rd A ha) (by rw [hl]; omega), smC_drop, List.drop_eq_getElem_cons hi, smC_cons]
    congr 1
    exact List.take_left' (Sv.c_length _ _)

def Sv.zero : Sv := ⟨0, Ad.zero, 0, 0, 0, 0⟩
def Bk.zero : Bk := ⟨0, Ad.zero, 0, 0, false⟩
abbrev nilS : Sl := ⟨none, 0, 0⟩
theorem mkSv0 (w : World) : Sem.run Try.prog (Instr.build Ty.api_Service #[]) w = .ok (.agg (Sv.zero.c nilS).toArray) w := by kernel_rfl
theorem mkBk0 (w : World) : Sem.run Try.prog (Instr.build Ty.api_Backend #[]) w = .ok (.agg Bk.zero.c.toArray) w := by kernel_rfl

theorem conf_bare (s : Sv) (k : Sl) (w : World) : Ret Try.prog F.conf_bare #[.agg (s.c k).toArray] w (fun v w' => v = .agg (s.c nilS).toArray ∧ Ext w w') := by
  refine W.conf_bare_ok _ w _ ?_
  unfold W.conf_bare
  refine nxVar (vs := s.c k) rfl fun w1 hv hx1 hs1 => nxVar (vs := Sv.zero.c nilS) (by kernel_rfl) fun w2 hz hx2 hs2 => ?_
  have hv2 := hv.ext hx2
  refine ⟨⟨_, (scell hv2).2.2.2.2.2.2⟩, by rw [add_mk]; exact Blk.frozen hv2 _ rfl, ?_⟩
  rw [add_mk]
  refine nxSet hv2 fun w3 hv3 hc3 hs3 => ?_
  have ev : (s.c k).set (0 + 22) (.slice none 0 0) = s.c nilS := s.set22 k nilS
  rw [ev] at hv3
  have hz3 := hz.chg hc3 (by have := hv.lt; omega)
  refine ⟨_, hv3.rd (Sv.c_length _ _), hz3.storeOk (by simp [Sv.c_length]) (Sv.plain _ _), by simp [Sv.c_length], nxPut hz3 (us := s.c nilS) (by simp [Sv.c_length]) rfl fun w5 hz5 hc5 _ => ⟨_, hz5.rd (Sv.c_length _ _), rfl, ?_⟩⟩
  exact Ext.of_chg (Ext.of_chg (Ext.trans hx1 hx2) hc3 (Nat.le_refl _)) hc5 hx1.size

/-! ### rises -/
def risesL (l : List Int) : Bool := decide (l.Pairwise (· < ·))
theorem pairwise_of_next {l : List Int} (h : ∀ (i : Nat) (hi : i + 1 < l.length), l[i] < l[i + 1]) : l.Pairwise (· < ·) := by
  rw [List.pairwise_iff_getElem]
  intro i j hi hj hij
  obtain ⟨d, rfl⟩ : ∃ d, j = i + 1 + d := ⟨j - i - 1, by omega⟩
  clear hij
  induction d with
  | zero => exact h i hj
  | succ d ih =>
    have h1 := ih (by omega)
    have h2 := h (i + 1 + d) hj
    exact Int.lt_trans h1 h2
theorem conf_rises {s : Sl} {l : List Int} (hs : Src 1 w s (l.map encI)) (hn : l.length ≤ 1000000) : Ret Try.prog F.conf_rises #[.slice s.a s.len s.cap] w (fun v w' => v = .bool (risesL l) ∧ Ext w w') := by
  refine W.conf_rises_ok s w _ ?_
  unfold W.conf_rises
  have hl : s.len = l.length := by have := hs.len; rw [List.length_map] at this; omega
  refine ⟨fun n w' => ∃ i : Nat, n = (i : Int) + 1 ∧ (i + 1 ≤ l.length ∨ i = 0) ∧ Ext w w' ∧ ∀ (j : Nat) (hj : j + 1 < l.length), j < i → l[j] < l[j + 1], fun n _ => (s.len + 1 - n).toNat, ⟨0, rfl, .inr rfl, .refl _ _, fun j hj h => by omega⟩, ?_⟩
  rintro _ w4 ⟨i, rfl, hi, hx4, hno⟩
  have e1 : IntKind.wrap .i64 ((i : Int) + 1 - 1) = (i : Int) := by rw [wrapi (by omega) (by omega)]; omega
  rw [e1]
  refine ⟨fun h => ?_, fun h => ?_⟩
  · have hlt : (i : Int) + 1 < ((s.len : Nat) : Int) := of_decide_eq_true h
    have hlt : i + 1 < l.length := by omega
    have hd : Ext w4 w4.drew := Chg.drew (.refl _ _)
    have hX5 := Ext.trans hx4 hd
    have hs5 := hs.ext hX5
    have hA : ∃ A, s.a = some A := by
      cases ha : s.a with
      | none =>
        have := congrArg List.length (hs.nil ha)
        rw [List.length_map, List.length_nil] at this
        omega
      | some A => exact ⟨A, rfl⟩
    obtain ⟨A, hA⟩ := hA
    have hcell : ∀ (j : Nat) (hj : j < l.length), w4.drew.cell? (A.add (j * 1)) = some (.int .i64 l[j]) := fun j hj => by
      have := rdGet (hs5.rd A hA) (j := j) (v := .int .i64 l[j]) (by simp [hj])
      rw [Nat.zero_add] at this
      rwa [Nat.mul_one]
    have ew : IntKind.wrap .i64 ((i : Int) + 1 + 1) = ((i + 1 : Nat) : Int) + 1 := by rw [wrapi (by omega) (by omega)]; omega
    rw [ew]
    have hms : (((s.len : Nat) : Int) + 1 - (((i + 1 : Nat) : Int) + 1)).toNat < (((s.len : Nat) : Int) + 1 - ((i : Int) + 1)).toNat := by omega
    refine nx ⟨A, hA, ⟨by omega, by omega⟩, id, l[i], by rw [Int.toNat_natCast]; exact hcell i (by omega), A, hA, ⟨by omega, by omega⟩, id, l[i + 1], by rw [show ((i : Int) + 1).toNat = i + 1 by omega]; exact hcell (i + 1) hlt, fun hg => ?_, fun hg => ?_⟩
    · have hg := of_decide_eq_true hg
      refine ⟨?_, hX5⟩
      congr 1
      symm
      refine decide_eq_false fun hp => ?_
      have := List.pairwise_iff_getElem.1 hp i (i + 1) (by omega) hlt (by omega)
      omega
    · have hg := of_decide_eq_false hg
      refine ⟨⟨i + 1, rfl, .inl (by omega), hX5, fun j hj hji => ?_⟩, hms⟩
      rcases Nat.lt_or_ge j i with h3 | h3
      · exact hno j hj h3
      · have : j = i := by omega
        subst this; omega
  · have hge : ¬ (i : Int) + 1 < ((s.len : Nat) : Int) := of_decide_eq_false h
    refine ⟨?_, hx4⟩
    congr 1
    symm
    exact decide_eq_true (pairwise_of_next fun j hj => hno j hj (by omega))

/-! ### lays, good, on plain data -/
def undr (b : Bk) : Bk := { b with drained := false }
def layB (sid : Int) : List SB → List Bk → Option (List SB)
  | L, [] => some L
  | L, b :: bs => if (addBackend L sid (undr b)).1 = 0 then layB sid (addBackend L sid (undr b)).2 bs else none
theorem layB_snoc (sid : Int) : ∀ (L : List SB) (bs : List Bk) (b : Bk), layB sid L (bs ++ [b]) = (layB sid L bs).bind fun L' => if (addBackend L' sid (undr b)).1 = 0 then some (addBackend L' sid (undr b)).2 else none
  | L, [], b => by simp [layB]
  | L, c :: bs, b => by
    simp only [List.cons_append, layB]
    split
    · exact layB_snoc sid _ bs b
    · rfl
theorem layB_none {sid : Int} : ∀ {L : List SB} {bs : List Bk} (cs : List Bk), layB sid L bs = none → layB sid L (bs ++ cs) = none
  | L, [], cs, h => by simp [layB] at h
  | L, b :: bs, cs, h => by
    simp only [List.cons_append, layB] at h ⊢
    split
    · rename_i h0
      rw [if_pos h0] at h
      exact layB_none cs h
    · rfl
def layS (L : List SB) (x : SB) : Option (List SB) :=
  if (addService L x.1 nilS).1 = 0 then
    match layB x.1.id (addService L x.1 nilS).2 x.2 with
    | some L' => if risesL (x.2.map (·.id)) then some L' else none
    | none => none
  else none

theorem appInt : AppT Try.prog Ty.Sl_int Ty.int 1 8 := ⟨by kernel_rfl⟩
theorem foot_type (h : FarmAt w fm R) {q : Nat} {c : Array Value} {T : TypeId} (hq : foot fm R q) (hB : Blk w q c T) : T = Ty.farm_Farm ∨ T = Ty.api_Service ∨ T = Ty.api_Backend := by
  rcases hq with rfl | rfl | rfl | ⟨r, hr, rfl | hq⟩
  · exact .inl (Blk.inj hB h.v).2
  · exact (h.k1.notVar hB).elim
  · exact (h.k2.notVar hB).elim
  · exact .inr (.inl (Blk.inj hB (h.sv r hr)).2)
  · exact .inr (.inr ((h.bk r hr).notVar hq hB).symm)
theorem OwnS.blk {sz : Nat} {T : TypeId} {s : Sl} {vs : List Value} (h : OwnS sz T w s vs) {q : Nat} (hq : ownB s q) : ∃ c, Blk w q c T := by
  obtain ⟨A, hA, rfl⟩ := hq
  obtain ⟨_, _, _, ⟨hn, _⟩ | ⟨b, c, hb, hblk, _⟩⟩ := h
  · rw [hn] at hA; cases hA
  · rw [hb] at hA; cases hA; exact ⟨c, hblk⟩

/-- Changes, one behind the other, of what was there and of what is new. -/
theorem chgThen {W V : Nat → Prop} {w2 : World} (h1 : Chg W w w') (h2 : Chg V w' w2) (hV : ∀ q, V q → W q ∨ w.heap.size ≤ q) : Chg W w w2 :=
  ⟨h2.os.trans h1.os, h2.tape.trans h1.tape, h2.output.trans h1.output, Nat.le_trans h1.size h2.size, fun k hk hW => by
    rw [h2.block k (Nat.lt_of_lt_of_le hk h1.size) (fun hv => (hV k hv).elim hW fun h => by omega), h1.block k hk hW]⟩

theorem conf_lays (h : FarmAt w fm R) (x : SM) (hbkC : ∀ w', Chg (foot fm R) w w' → BR w' x.k x.bs) (hkn : x.bs.length ≤ 1000) :
    Ret Try.prog F.conf_lays #[.pointer (some ⟨fm.p, 0, none⟩), .agg (x.s.c x.k).toArray] w (fun v w' => v = .bool (layS (absR R) x.ab).isSome ∧ Chg (foot fm R) w w' ∧
      ∀ L', layS (absR R) x.ab = some L' → ∃ R', FarmAt w' fm R' ∧ absR R' = L' ∧ ∀ q, foot fm R' q → foot fm R q ∨ w.heap.size ≤ q) := by
  refine W.conf_lays_ok (some ⟨fm.p, 0, none⟩) _ w _ ?_
  unfold W.conf_lays
  refine nxVar (vs := x.s.c x.k) rfl fun w1 hv hx1 hs1 => ⟨_, hv.rd (Sv.c_length _ _), (conf_bare x.s x.k w1).use ?_⟩
  rintro _ w3 ⟨rfl, hx3⟩
  have hX3 := Ext.trans hx1 hx3
  have h3 := h.ext hX3
  have hv3 := hv.ext hx3
  refine ⟨_, rfl, (farm_AddService' h3 x.s nilS).use ?_⟩
  rintro _ w6 ⟨rfl, R1, h6, hab6, hc6, hf6⟩
  have hC6 : Chg (foot fm R) w w6 := (Chg.of_ext hX3).trans hc6
  obtain ⟨e, he⟩ : ∃ e, e = (addService (absR R) x.s nilS).1 := ⟨_, rfl⟩
  rw [← he]
  refine ⟨_, rfl, fun hne => ?_, fun hz => ?_⟩
  · have hne : e ≠ 0 := by simpa using hne
    have hl : layS (absR R) x.ab = none := by
      unfold layS SM.ab
      rw [if_neg (by rw [← he]; exact hne)]
    rw [hl]
    exact ⟨rfl, hC6, fun L' hL => by cases hL⟩
  have hz : e = 0 := by simpa using hz
  have hnf : ¬ foot fm R w.heap.size := fun hq => by have := h.lt hq; omega
  have hf6' : ∀ q, foot fm R1 q → foot fm R q ∨ w1.heap.size ≤ q := fun q hq => (hf6 q hq).imp id fun h => Nat.le_trans hx3.size h
  have hv6 : Var w6 w.heap.size (x.s.c x.k) Ty.api_Service := hv3.chg hc6 hnf
  have hk : BR w x.k x.bs := hbkC w (.refl _ _)
  have hkl := BR.len hk
  have hl1 : (addService (absR R) x.s nilS).2 = absR R1 := hab6.symm
  refine ⟨x.k, (scell hv6).2.2.2.2.2.2, fun s12 n w' => ∃ (i : Nat) (Ri : List Rec), n = i ∧ i ≤ x.bs.length ∧ FarmAt w' fm Ri ∧ layB x.s.id (absR R1) (x.bs.take i) = some (absR Ri) ∧ OwnS 1 Ty.int w' s12 (((x.bs.take i).map (·.id)).map encI) ∧
      (∀ q, ownB s12 q → w1.heap.size ≤ q) ∧ Chg (foot fm R) w w' ∧ (∀ q, foot fm Ri q → foot fm R q ∨ w1.heap.size ≤ q) ∧ Var w' w.heap.size (x.s.c x.k) Ty.api_Service ∧ w1.heap.size ≤ w'.heap.size, fun _ n _ => (x.k.len - n).toNat,
    ⟨0, R1, rfl, Nat.zero_le _, h6, by simp [layB], by simpa using OwnS.none 1 Ty.int w6, fun q hq => (ownB_none q hq).elim, hC6, hf6', hv6, Nat.le_trans hx3.size hc6.size⟩, ?_⟩
  rintro s12 _ w14 ⟨i, Ri, rfl, hi, h14, hlay, ho, hof, hC14, hf14, hv14, hsz14⟩
  have hbk14 := hbkC _ hC14
  have hlayS : layS (absR R) x.ab = match layB x.s.id (absR R1) x.bs with | some L' => if risesL (x.bs.map (·.id)) then some L' else none | none => none := by
    unfold layS SM.ab
    rw [if_pos (by rw [← he]; exact hz)]
    simp only
    rw [hl1]
  refine ⟨fun hlt => ?_, fun hge => ?_⟩
  · have hlt : (i : Int) < ((x.k.len : Nat) : Int) := of_decide_eq_true hlt
    have hlt : i < x.bs.length := by omega
    obtain ⟨A, hA, hbd, hrd⟩ := BR.get hbk14 hlt
    obtain ⟨b, hb⟩ : ∃ b, b = x.bs[i] := ⟨_, rfl⟩
    rw [← hb] at hrd
    have htk : x.bs.take (i + 1) = x.bs.take i ++ [b] := by rw [hb]; exact List.take_succ_eq_append_getElem hlt
    refine ⟨A, hA, hbd, _, hrd, nxVar (vs := Bk.zero.c) (by kernel_rfl) fun w17 hz17 hx17 hs17 => ⟨hz17.storeOk (by simp [Bk.c_length]) (Bk.plain _), by simp [Bk.c_length], nxPut hz17 (us := b.c) (by simp [Bk.c_length]) rfl fun w18 hb18 hc18 hs18 => ?_⟩⟩
    have hx18 : Ext w14 w18 := Ext.of_chg hx17 hc18 (Nat.le_refl _)
    have ho18 := ho.ext hx18
    have hil : s12.len = i := by have := ho.1; simp at this; omega
    obtain ⟨s', w', g1, g2, g3, g4, g5⟩ := appInt.push (oT := Ty.Sl_int) (xs := [.int .i64 b.id]) rfl ho18 (by simp [Plain]) (by omega)
    refine ⟨b.id, hb18.cell, nx ⟨s', w', g1, ?_⟩⟩
    have h18 := h14.ext hx18
    have hnt : ∀ q, ownB s12 q → ¬ foot fm Ri q := fun q hq hfq => by
      obtain ⟨c, hB⟩ := OwnS.blk ho hq
      rcases foot_type h14 hfq hB with e | e | e <;> exact absurd e (by decide)
    have h22 : FarmAt w' fm Ri := h18.chg g4 fun q hq hs => hnt q hs hq
    have hb22 : Var w' w14.heap.size b.c Ty.api_Backend := hb18.chg g4 fun hq => by have := ho.lt _ hq; omega
    refine ⟨⟨_, (bcell hb22).2.2.2.2⟩, by rw [add_mk]; exact Blk.frozen hb22 _ rfl, ?_⟩
    rw [add_mk]
    refine nxSet hb22 fun w23 hb23 hc23 hs23 => ?_
    have ev : b.c.set (0 + 20) (.bool false) = (undr b).c := Bk.setD b false
    rw [ev] at hb23
    have hnf14 : ∀ q, foot fm Ri q → q < w14.heap.size := fun q hq => h14.lt hq
    have h23 : FarmAt w23 fm Ri := h22.chg hc23 fun q hq e => by have := hnf14 q hq; omega
    -- from the round's beginning to here nothing of the farm and of what was there has turned
    have hW : ∀ q, ownB s12 q ∨ q = w14.heap.size → w1.heap.size ≤ q := fun q hq => hq.elim (hof q) fun e => by omega
    have hc23' : Chg (fun q => ownB s12 q ∨ q = w14.heap.size) w14 w23 := (Chg.of_ext hx18).trans ((Chg.mono g4 fun _ _ h => .inl h).trans (Chg.mono hc23 fun _ _ h => .inr h))
    have hv23 : Var w23 w.heap.size (x.s.c x.k) Ty.api_Service := hv14.chg hc23' fun hq => by have := hW _ hq; omega
    have hC23 : Chg (foot fm R) w w23 := chgThen hC14 hc23' fun q hq => .inr (by have := hW q hq; omega)
    refine ⟨x.s.id, (scell hv23).1, _, hb23.rd (Bk.c_length _), (farm_AddBackend h23 x.s.id (undr b)).use ?_⟩
    rintro _ w26 ⟨rfl, R2, h26, hab26, hc26, hf26⟩
    have hC26 : Chg (foot fm R) w w26 := chgThen hC23 hc26 fun q hq => (hf14 q hq).imp id fun h => by omega
    obtain ⟨e2, he2⟩ : ∃ e2, e2 = (addBackend (absR Ri) x.s.id (undr b)).1 := ⟨_, rfl⟩
    rw [← he2]
    have hdr : x.bs = x.bs.take (i + 1) ++ x.bs.drop (i + 1) := (List.take_append_drop _ _).symm
    refine ⟨_, rfl, fun hne => ?_, fun hz2 => ?_⟩
    · have hne : e2 ≠ 0 := by simpa using hne
      have hl : layS (absR R) x.ab = none := by
        have : layB x.s.id (absR R1) x.bs = none := by
          rw [hdr]
          refine layB_none _ ?_
          rw [htk, layB_snoc, hlay]
          simp only [Option.bind_some]
          rw [if_neg (by rw [← he2]; exact hne)]
        rw [hlayS, this]
      rw [hl]
      exact ⟨rfl, hC26, fun L' hL => by cases hL⟩
    have hz2 : e2 = 0 := by simpa using hz2
    have ew : IntKind.wrap .i64 ((i : Int) + 1) = ((i + 1 : Nat) : Int) := by rw [wrapi (by omega) (by omega)]; rfl
    rw [ew]
    have hms : (((x.k.len : Nat) : Int) - ((i + 1 : Nat) : Int)).toNat < (((x.k.len : Nat) : Int) - (i : Int)).toNat := by omega
    have hf26' : ∀ q, foot fm R2 q → foot fm R q ∨ w1.heap.size ≤ q := fun q hq => by
      rcases hf26 q hq with h1 | h1
      · exact hf14 q h1
      · have := hc23'.size; exact .inr (by omega)
    have hs'lt : ∀ q, ownB s' q → q < w'.heap.size := fun q hq => g2.lt q hq
    have ho23 : OwnS 1 Ty.int w23 s' ((((x.bs.take i).map (·.id)).map encI) ++ [.int .i64 b.id]) := g2.chg hc23 fun q hq e => by
      subst e
      rcases g5 _ hq with h1 | h1
      · have := ho.lt _ h1; omega
      · have := hb18.lt; omega
    have ho26 : OwnS 1 Ty.int w26 s' (((x.bs.take (i + 1)).map (·.id)).map encI) := by
      have h1 := ho23.chg hc26 fun q hq hfq => by
        obtain ⟨c, hB⟩ := OwnS.blk ho23 hq
        rcases foot_type h23 hfq hB with e | e | e <;> exact absurd e (by decide)
      rw [htk, List.map_append, List.map_append]
      exact h1
    refine ⟨⟨i + 1, R2, rfl, hlt, h26, ?_, ho26, fun q hq => ?_, hC26, hf26', hv23.chg hc26 fun hq => ?_, Nat.le_trans hsz14 (Nat.le_trans hc23'.size hc26.size)⟩, hms⟩
    · rw [htk, layB_snoc, hlay]
      simp only [Option.bind_some]
      rw [if_pos (by rw [← he2]; exact hz2), hab26]
    · rcases g5 q hq with h1 | h1
      · exact hof q h1
      · have := hx18.size; omega
    · rcases hf14 _ hq with h1 | h1
      · exact hnf h1
      · omega
  · have hge : ¬ (i : Int) < ((x.k.len : Nat) : Int) := of_decide_eq_false hge
    have hie : i = x.bs.length := by omega
    subst hie
    rw [List.take_length] at hlay ho
    refine (conf_rises (l := x.bs.map (·.id)) ho.src (by rw [List.length_map]; omega)).use ?_
    rintro _ w29 ⟨rfl, hx29⟩
    have hls : layS (absR R) x.ab = if risesL (x.bs.map (·.id)) then some (absR Ri) else none := by rw [hlayS, hlay]
    refine ⟨_, rfl, ?_, hC14.trans (Chg.of_ext hx29), fun L' hL => ?_⟩
    · rw [hls]
      cases risesL (x.bs.map (·.id)) <;> rfl
    · rw [hls] at hL
      cases hr : risesL (x.bs.map (·.id)) with
      | false => rw [hr] at hL; cases hL
      | true =>
        rw [hr] at hL
        cases hL
        exact ⟨Ri, h14.ext hx29, rfl, fun q hq => (hf14 q hq).imp id fun h => by omega⟩

/-- Whether a farm could have services: they are laid into an empty one. -/
def layAll : List SB → List SB → Option (List SB)
  | L, [] => some L
  | L, x :: X => match layS L x with
    | some L' => layAll L' X
    | none => none
def goodL (X : List SB) : Bool := (layAll [] X).isSome && risesL (X.map fun x => x.1.id)
theorem layAll_snoc : ∀ (L X : List SB) (x : SB), layAll L (X ++ [x]) = (layAll L X).bind fun L' => layS L' x
  | L, [], x => by
    simp only [List.nil_append, layAll, Option.bind_some]
    cases layS L x <;> rfl
  | L, y :: X, x => by
    simp only [List.cons_append, layAll]
    cases layS L y with
    | none => rfl
    | some L' => exact layAll_snoc L' X x
theorem layAll_none : ∀ {L X : List SB} (Y : List SB), layAll L X = none → layAll L (X ++ Y) = none
  | L, [], Y, h => by simp [layAll] at h
  | L, y :: X, Y, h => by
    simp only [List.cons_append, layAll] at h ⊢
    cases hl : layS L y with
    | none => rfl
    | some L' => rw [hl] at h; exact layAll_none Y h

theorem conf_good (hl : SvL w t X) : Ret Try.prog F.conf_good #[.slice t.a t.len t.cap] w (fun v w' => v = .bool (goodL (X.map SM.ab)) ∧ Ext w w') := by
  refine W.conf_good_ok t w _ ?_
  unfold W.conf_good
  refine (farm_New w).use ?_
  rintro _ w1 ⟨fm, rfl, h1, hx1, hnew⟩
  have hlen := hl.len
  have hlim := hl.lim
  refine ⟨_, rfl, fun s6 n w' => ∃ (i : Nat) (Ri : List Rec), n = i ∧ i ≤ X.length ∧ FarmAt w' fm Ri ∧ layAll [] ((X.map SM.ab).take i) = some (absR Ri) ∧ OwnS 1 Ty.int w' s6 ((((X.map SM.ab).take i).map fun x => x.1.id).map encI) ∧ Ext w w' ∧ (∀ q, foot fm Ri q → w.heap.size ≤ q) ∧ ∀ q, ownB s6 q → w.heap.size ≤ q,
    fun _ n _ => (t.len - n).toNat, ⟨0, [], rfl, Nat.zero_le _, h1, by simp [layAll, absR], by simpa using OwnS.none 1 Ty.int w1, hx1, hnew, fun q hq => (ownB_none q hq).elim⟩, ?_⟩
  rintro s6 _ w8 ⟨i, Ri, rfl, hi, h8, hlay, ho, hx8, hf8, hof⟩
  refine ⟨fun hlt => ?_, fun hge => ?_⟩
  · have hlt : (i : Int) < ((t.len : Nat) : Int) := of_decide_eq_true hlt
    have hlt : i < X.length := by omega
    have hl8 := hl.ext hx8
    obtain ⟨A, hA, hbd, hrd⟩ := hl8.get hlt
    obtain ⟨x, hxe⟩ : ∃ x, x = X[i] := ⟨_, rfl⟩
    have hxm : x ∈ X := by rw [hxe]; exact List.getElem_mem _
    rw [← hxe] at hrd
    have htk : (X.map SM.ab).take (i + 1) = (X.map SM.ab).take i ++ [x.ab] := by rw [List.take_succ_eq_append_getElem (by simpa using hlt)]; simp [hxe]
    refine ⟨A, hA, hbd, _, hrd, nxVar (vs := Sv.zero.c nilS) (by kernel_rfl) fun w11 hz11 hx11 hs11 => ⟨hz11.storeOk (by simp [Sv.c_length]) (Sv.plain _ _), by simp [Sv.c_length], nxPut hz11 (us := x.s.c x.k) (by simp [Sv.c_length]) rfl fun w12 hv12 hc12 hs12 => ?_⟩⟩
    have hx12 : Ext w8 w12 := Ext.of_chg hx11 hc12 (Nat.le_refl _)
    have ho12 := ho.ext hx12
    have hil : s6.len = i := by have := ho.1; simp at this; omega
    obtain ⟨s', w', g1, g2, g3, g4, g5⟩ := appInt.push (oT := Ty.Sl_int) (xs := [.int .i64 x.s.id]) rfl ho12 (by simp [Plain]) (by omega)
    refine ⟨x.s.id, hv12.cell, nx ⟨s', w', g1, ?_⟩⟩
    have hX12 := Ext.trans hx8 hx12
    have hX16 : Ext w w' := Ext.of_new hX12 g4 hof
    have hv16 : Var w' w8.heap.size (x.s.c x.k) Ty.api_Service := hv12.chg g4 fun hq => by have := ho.lt _ hq; omega
    have h16 : FarmAt w' fm Ri := (h8.ext hx12).chg g4 fun q hq hs => by
      obtain ⟨c, hB⟩ := OwnS.blk ho hs
      rcases foot_type h8 hq hB with e | e | e <;> exact absurd e (by decide)
    refine ⟨_, hv16.rd (Sv.c_length _ _), (conf_lays h16 x (fun w2 hc2 => (hl.bk x hxm).ext (Ext.of_new hX16 hc2 hf8)) (hl.few x hxm)).use ?_⟩
    rintro _ w18 ⟨rfl, hc18, hL⟩
    have hX18 : Ext w w18 := Ext.of_new hX16 hc18 hf8
    refine ⟨_, rfl, fun hb => ?_, fun hb => ?_⟩
    · have hb : layS (absR Ri) x.ab = none := by simpa using hb
      have : layAll [] (X.map SM.ab) = none := by
        rw [← List.take_append_drop (i + 1) (X.map SM.ab)]
        refine layAll_none _ ?_
        rw [htk, layAll_snoc, hlay]
        exact hb
      exact ⟨by unfold goodL; rw [this]; rfl, hX18⟩
    · have hb : (layS (absR Ri) x.ab).isSome = true := by simpa using hb
      obtain ⟨L', hL'⟩ := Option.isSome_iff_exists.1 hb
      obtain ⟨R2, h18, hab, hf18⟩ := hL L' hL'
      have ew : IntKind.wrap .i64 ((i : Int) + 1) = ((i + 1 : Nat) : Int) := by rw [wrapi (by omega) (by omega)]; rfl
      rw [ew]
      have hms : (((t.len : Nat) : Int) - ((i + 1 : Nat) : Int)).toNat < (((t.len : Nat) : Int) - (i : Int)).toNat := by omega
      have hsz := hX16.size
      refine ⟨⟨i + 1, R2, rfl, hlt, h18, ?_, ?_, hX18, fun q hq => ?_, fun q hq => ?_⟩, hms⟩
      · rw [htk, layAll_snoc, hlay]
        simp only [Option.bind_some]
        rw [hL', hab]
      · rw [htk, List.map_append, List.map_append]
        refine g2.chg hc18 fun q hq hfq => ?_
        obtain ⟨c, hB⟩ := OwnS.blk g2 hq
        rcases foot_type h16 hfq hB with e | e | e <;> exact absurd e (by decide)
      · rcases hf18 q hq with h2 | h2
        · exact hf8 q h2
        · omega
      · rcases g5 q hq with h2 | h2
        · exact hof q h2
        · have := hX12.size; omega
  · have hge : ¬ (i : Int) < ((t.len : Nat) : Int) := of_decide_eq_false hge
    have hie : i = X.length := by omega
    subst hie
    have htk : (X.map SM.ab).take X.length = X.map SM.ab := List.take_of_length_le (by simp)
    rw [htk] at hlay ho
    refine (conf_rises ho.src (by simp; omega)).use ?_
    rintro _ w21 ⟨rfl, hx21⟩
    refine ⟨_, rfl, ?_, Ext.trans hx8 hx21⟩
    unfold goodL
    rw [hlay]; rfl

end Go.Proofs.Ytldeegpcldhjaaa
