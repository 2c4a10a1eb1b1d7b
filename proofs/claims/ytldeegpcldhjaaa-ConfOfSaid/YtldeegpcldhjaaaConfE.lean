/- The farm: DropService, find, AddBackend, DropBackend, Drain, Weigh. -/
import Derived.Test.YtldeegpcldhjaaaConfD
namespace Go.Proofs.Ytldeegpcldhjaaa
open Go Gx

variable {w w' : World} {fm : Fm} {R : List Rec} {r : Rec}

/-! ### The farm as plain data -/
abbrev SB := Sv × List Bk
def absR (R : List Rec) : List SB := R.map fun r => (r.s, r.bs)
def addService (L : List SB) (s : Sv) (k : Sl) : Int × List SB :=
  if mayS s k then if (L.any fun x => x.1.id == s.id) || (L.any fun x => decide (x.1.door = s.door)) then (7, L) else if L.length ≥ 8 then (2, L) else (0, insBy (fun x => x.1.id) (s, []) L) else (1, L)
def dropService (L : List SB) (id : Int) : Int × List SB :=
  if L.any fun x => x.1.id == id then (0, L.filter fun x => !(x.1.id == id)) else (6, L)
def updL (L : List SB) (sid : Int) (g : List Bk → List Bk) : List SB := L.map fun x => if x.1.id = sid then (x.1, g x.2) else x
def canB (s : Sv) (b : Bk) : Bool := idOk b.id && b.addr.good && (b.addr.six == s.addr.six) && !(b.port == 0) && weightOk b.weight && !b.drained
def insB (b : Bk) (l : List Bk) : List Bk := l.take (posB l b.id) ++ [b] ++ l.drop (posB l b.id)
def addBackend (L : List SB) (sid : Int) (b : Bk) : Int × List SB :=
  match L.find? fun x => x.1.id == sid with
  | none => (6, L)
  | some x => if canB x.1 b then if hasB x.2 b.id then (7, L) else if x.2.length ≥ 16 then (2, L) else (0, updL L sid (insB b)) else (1, L)
def hasSB (L : List SB) (sid bid : Int) : Bool := L.any fun x => (x.1.id == sid) && hasB x.2 bid
def delB (bid : Int) (l : List Bk) : List Bk := l.take (posB l bid) ++ l.drop (posB l bid + 1)
def modB (bid : Int) (g : Bk → Bk) (l : List Bk) : List Bk := l.modify (posB l bid) g
def dropBackend (L : List SB) (sid bid : Int) : Int × List SB := if hasSB L sid bid then (0, updL L sid (delB bid)) else (6, L)
def drain (L : List SB) (sid bid : Int) (on : Bool) : Int × List SB := if hasSB L sid bid then (0, updL L sid (modB bid fun b => { b with drained := on })) else (6, L)
def weigh (L : List SB) (sid bid : Int) (n : Int) : Int × List SB := if hasSB L sid bid then if weightOk n then (0, updL L sid (modB bid fun b => { b with weight := n })) else (1, L) else (6, L)

/-- What a call tells, and the farm behind it. -/
def Step (fm : Fm) (R : List Rec) (w : World) (x : Int × List SB) (v : Value) (w' : World) : Prop :=
  v = .int .i64 x.1 ∧ ∃ R', FarmAt w' fm R' ∧ absR R' = x.2 ∧ Chg (foot fm R) w w' ∧ ∀ q, foot fm R' q → foot fm R q ∨ w.heap.size ≤ q

theorem Step.same (h : FarmAt w fm R) (hx : Ext w w') {e : Int} {v : Value} (hv : v = .int .i64 e) : Step fm R w (e, absR R) v w' :=
  ⟨hv, R, h.ext hx, rfl, Chg.of_ext hx, fun _ h => .inl h⟩

theorem any_abs (R : List Rec) (p : SB → Bool) : (absR R).any p = R.any fun r => p (r.s, r.bs) := by unfold absR; rw [List.any_map]; rfl

theorem farm_AddService' (h : FarmAt w fm R) (s : Sv) (k : Sl) : Ret Try.prog F.farm_Farm_AddService #[.pointer (some ⟨fm.p, 0, none⟩), .agg (s.c k).toArray] w (fun v w' => Step fm R w (addService (absR R) s k) v w') := by
  refine (farm_AddService h s k).mono ?_
  have e : (addService (absR R) s k).1 = addSE R s k := by
    unfold addService addSE
    rw [any_abs, any_abs, show (absR R).length = R.length by simp [absR]]
    show _ = if mayS s k then if (hasId R s.id || hasDoor R s.door) = true then (7 : Int) else if R.length ≥ 8 then 2 else 0 else 1
    unfold hasId hasDoor
    split
    · split
      · rfl
      · split <;> rfl
    · rfl
  have e2 : addSE R s k ≠ 0 → (addService (absR R) s k).2 = absR R := by
    intro hne
    rw [← e] at hne
    unfold addService at hne ⊢
    split
    · split
      · rfl
      · split
        · rfl
        · rename_i h1 h2 h3
          rw [if_pos h1, if_neg h2, if_neg h3] at hne
          exact absurd rfl hne
    · rfl
  have e3 : addSE R s k = 0 → (addService (absR R) s k).2 = insBy (fun x => x.1.id) (s, []) (absR R) := by
    intro h0
    rw [← e] at h0
    unfold addService at h0 ⊢
    split
    · split
      · rename_i h1 h2
        rw [if_pos h1, if_pos h2] at h0; exact absurd h0 (show (7 : Int) ≠ 0 by decide)
      · split
        · rename_i h1 h2 h3
          rw [if_pos h1, if_neg h2, if_pos h3] at h0; exact absurd h0 (show (2 : Int) ≠ 0 by decide)
        · rfl
    · rename_i h1
      rw [if_neg h1] at h0; exact absurd h0 (show (1 : Int) ≠ 0 by decide)
  rintro v w' ⟨rfl, ⟨hne, h', hx⟩ | ⟨h0, b, hb, h', hc⟩⟩
  · exact ⟨by rw [e], R, h', (e2 hne).symm, Chg.of_ext hx, fun _ h => .inl h⟩
  · refine ⟨by rw [e], _, h', ?_, hc, fun q hq => ?_⟩
    · rw [e3 h0]
      exact insBy_map (fun x : Rec => x.s.id) (fun x : SB => x.1.id) (fun r : Rec => (r.s, r.bs)) (fun _ => rfl) _ _
    · rcases hq with rfl | rfl | rfl | ⟨x, hx, hq⟩
      · exact .inl (.inl rfl)
      · exact .inl (.inr (.inl rfl))
      · exact .inl (.inr (.inr (.inl rfl)))
      · rcases insBy_mem hx with rfl | hx
        · rcases hq with rfl | hq
          · exact .inr hb
          · exact (ownB_none q hq).elim
        · exact .inl (.inr (.inr (.inr ⟨x, hx, hq⟩)))

theorem ids_split (hi : R.Pairwise fun a b => a.s.id < b.s.id) (hr : r ∈ R) : ∃ A B, R = A ++ r :: B ∧ R.filter (fun x => !(x.s.id == r.s.id)) = A ++ B ∧ (∀ x ∈ A, x.s.id ≠ r.s.id) ∧ ∀ x ∈ B, x.s.id ≠ r.s.id := by
  obtain ⟨A, B, rfl⟩ := List.append_of_mem hr
  rw [List.pairwise_append, List.pairwise_cons] at hi
  have hA : ∀ x ∈ A, x.s.id ≠ r.s.id := fun x hx => by have := hi.2.2 x hx r (by simp); omega
  have hB : ∀ x ∈ B, x.s.id ≠ r.s.id := fun x hx => by have := hi.2.1.1 x hx; omega
  refine ⟨A, B, rfl, ?_, hA, hB⟩
  rw [List.filter_append, List.filter_cons, if_neg (by simp), List.filter_eq_self.2 (fun x hx => by simpa using hA x hx), List.filter_eq_self.2 (fun x hx => by simpa using hB x hx)]

theorem farm_DropService (h : FarmAt w fm R) (id : Int) : Ret Try.prog F.farm_Farm_DropService #[.pointer (some ⟨fm.p, 0, none⟩), .int .i64 id] w (fun v w' => Step fm R w (dropService (absR R) id) v w') := by
  refine W.farm_Farm_DropService_ok (some ⟨fm.p, 0, none⟩) id w _ ?_
  unfold W.farm_Farm_DropService
  obtain ⟨p3, hl, hp3⟩ := h.look id
  have e : (absR R).any (fun x => x.1.id == id) = hasId R id := by rw [any_abs]; rfl
  refine ⟨fun hn => by simp at hn, fun _ => ⟨_, rfl, _, h.cells.1, p3, _, w, hl, fun hb => ?_, fun hb => ?_⟩⟩
  · have hb : hasId R id = false := by simpa using hb
    have ed : dropService (absR R) id = (6, absR R) := by unfold dropService; rw [e, hb]; rfl
    rw [ed]
    exact Step.same h (.refl _ _) rfl
  · have hb : hasId R id = true := by simpa using hb
    have ed : dropService (absR R) id = (0, (absR R).filter fun x => !(x.1.id == id)) := by unfold dropService; rw [e, hb]; rfl
    rw [ed]
    obtain ⟨r, hr, rfl⟩ := hasId_true.1 hb
    obtain ⟨A, B, hR, hf, hA, hB⟩ := ids_split h.ids hr
    have hp1 : (R.map Rec.e1).Perm (r.e1 :: (R.filter fun x => !(x.s.id == r.s.id)).map Rec.e1) := by rw [hf, hR, List.map_append, List.map_cons, List.map_append]; exact List.perm_middle
    have hp2 : (R.map Rec.e2).Perm (r.e2 :: (R.filter fun x => !(x.s.id == r.s.id)).map Rec.e2) := by rw [hf, hR, List.map_append, List.map_cons, List.map_append]; exact List.perm_middle
    obtain ⟨w9, hr9, hc9, hs9, hK9⟩ := (h.k1.perm hp1).delete_some keyI mapT1 (kT' := Ty.int) (o := Ty.t)
    have hd : Ext w9 w9.drew := Chg.drew (.refl _ _)
    have hv9 : Var w9 fm.p _ Ty.farm_Farm := h.v.chg hc9 (fun e => by have := h.k1; rw [← e] at this; exact this.notVar h.v)
    have hsv := h.sv r hr
    have hsv9 : Var w9 r.blk (r.s.c r.k) Ty.api_Service := hsv.chg hc9 (fun e => by have := h.k1; rw [← e] at this; exact this.notVar hsv)
    have hk2 : MapK w9.drew fm.m2 encD (r.e2 :: (R.filter fun x => !(x.s.id == r.s.id)).map Rec.e2) := ((h.k2.perm hp2).chg hc9 (fun e => h.ne e.symm)).ext hd
    refine ⟨_, rfl, _, h.cells.1, _, w9, hr9, nx ⟨fun _ => False, _, rfl, id, some fm.m2, ?_, ⟨r.blk, 0, none⟩, hp3 r hr rfl, id, _, (hsv9.ext hd).rd (Sv.c_length _ _), (farm_of r.s r.k _).use ?_⟩⟩
    · have := (hv9.ext hd).cell (i := 1)
      rw [add_mk]; exact this
    rintro _ w16 ⟨rfl, hx16⟩
    obtain ⟨w20, hr20, hc20, hs20, hK20⟩ := (hk2.ext hx16).delete_some keyD mapT2 (kT' := Ty.farm_door) (o := Ty.t)
    refine ⟨_, rfl, hx16, _, w20, hr20, rfl, R.filter (fun x => !(x.s.id == r.s.id)), ?_, ?_, ?_, ?_⟩
    · have hx : Ext w9 w16 := Ext.trans hd hx16
      have hC : Chg (fun q => q = fm.m1 ∨ q = fm.m2) w w20 := (Chg.mono hc9 fun _ _ h => .inl h).trans ((Chg.of_ext hx).trans (Chg.mono hc20 fun _ _ h => .inr h))
      have hnm : ∀ q c T, Blk w q c T → ¬ (q = fm.m1 ∨ q = fm.m2) := by
        rintro q c T hB (rfl | rfl)
        · exact h.k1.notVar hB
        · exact h.k2.notVar hB
      have hsub : ∀ y ∈ R.filter (fun x => !(x.s.id == r.s.id)), y ∈ R := fun y hy => (List.mem_filter.1 hy).1
      refine ⟨h.v.chg hC (hnm _ _ _ h.v), ((hK9.ext hx).chg hc20 h.ne), hK20, h.ne, fun y hy => (h.sv y (hsub y hy)).chg hC (hnm _ _ _ (h.sv y (hsub y hy))), fun y hy => (h.bk y (hsub y hy)).chg hC fun q hq hm => ?_,
        fun y hy => h.rise y (hsub y hy), fun y hy => h.few y (hsub y hy), h.ids.filter _, Nat.le_trans (List.length_filter_le _ _) h.len, fun a ha b hb hne => h.apart a (hsub a ha) b (hsub b hb) hne⟩
      rcases hm with rfl | rfl
      · exact (h.bk y (hsub y hy)).notMap hq h.k1
      · exact (h.bk y (hsub y hy)).notMap hq h.k2
    · unfold absR; rw [List.filter_map]; rfl
    · exact (Chg.mono hc9 fun q _ e => .inr (.inl e)).trans ((Chg.of_ext (Ext.trans hd hx16)).trans (Chg.mono hc20 fun q _ e => .inr (.inr (.inl e))))
    · intro q hq
      rcases hq with rfl | rfl | rfl | ⟨x, hx, hq⟩
      · exact .inl (.inl rfl)
      · exact .inl (.inr (.inl rfl))
      · exact .inl (.inr (.inr (.inl rfl)))
      · exact .inl (.inr (.inr (.inr ⟨x, (List.mem_filter.1 hx).1, hq⟩)))

/-- A service's backends, laid anew. -/
theorem FarmAt.set (h : FarmAt w fm R) (hr : r ∈ R) {bs : List Bk} {k : Sl} (hc : Chg (fun q => q = r.blk ∨ ownB r.k q) w w') (hv : Var w' r.blk (r.s.c k) Ty.api_Service) (ho : OwnS 21 Ty.api_Backend w' k (bksC bs)) (hri : Rise bs) (hfew : bs.length ≤ 16)
    (hfr : ∀ q, ownB k q → ownB r.k q ∨ w.heap.size ≤ q) : ∃ R', FarmAt w' fm R' ∧ absR R' = (absR R).map (fun x => if x.1.id = r.s.id then (x.1, bs) else x) ∧ ∀ q, foot fm R' q → foot fm R q ∨ w.heap.size ≤ q := by
  obtain ⟨g, hg⟩ : ∃ g : Rec → Rec, g = fun x => if x.s.id = r.s.id then ⟨x.s, bs, x.blk, k⟩ else x := ⟨_, rfl⟩
  have hgs : ∀ x, (g x).s = x.s ∧ (g x).blk = x.blk := fun x => by rw [hg]; simp only; split <;> exact ⟨rfl, rfl⟩
  have hg1 : g r = ⟨r.s, bs, r.blk, k⟩ := by rw [hg]; simp
  have hg2 : ∀ x ∈ R, x.s.id ≠ r.s.id → g x = x := fun x _ hx => by rw [hg]; simp [hx]
  have hcase : ∀ x ∈ R, (x = r ∧ g x = ⟨r.s, bs, r.blk, k⟩) ∨ (x.s.id ≠ r.s.id ∧ g x = x) := fun x hx => by
    by_cases he : x.s.id = r.s.id
    · have := h.uniq hx hr he
      subst this
      exact .inl ⟨rfl, hg1⟩
    · exact .inr ⟨he, hg2 x hx he⟩
  have hbr := h.bk r hr
  have hsr := h.sv r hr
  have hW : ∀ q c T, Blk w q c T → T ≠ Ty.api_Backend → q ≠ r.blk → ¬ (q = r.blk ∨ ownB r.k q) := by
    rintro q c T hB hT hq (e | e)
    · exact hq e
    · exact hT (hbr.notVar e hB).symm
  have hm : ∀ {α : Type} {enc : α → Value} {M : List (α × Value)} {q : Nat}, MapK w q enc M → ¬ (q = r.blk ∨ ownB r.k q) := by
    rintro α enc M q hM (rfl | e)
    · exact hM.notVar hsr
    · exact hbr.notMap e hM
  have e1 : (R.map g).map Rec.e1 = R.map Rec.e1 := by
    rw [List.map_map]; exact List.map_congr_left fun x _ => by simp only [Function.comp, Rec.e1, (hgs x).1, (hgs x).2]
  have e2 : (R.map g).map Rec.e2 = R.map Rec.e2 := by
    rw [List.map_map]; exact List.map_congr_left fun x _ => by simp only [Function.comp, Rec.e2, (hgs x).1]
  have hold : ∀ x ∈ R, ∀ q, ownB x.k q → q < w.heap.size := fun x hx => (h.bk x hx).lt
  refine ⟨R.map g, ⟨h.v.chg hc (hW _ _ _ h.v (by decide) (fun e => by have := h.v; rw [e] at this; exact absurd (this.inj hsr) (by decide))), by rw [e1]; exact h.k1.chg hc (hm h.k1), by rw [e2]; exact h.k2.chg hc (hm h.k2), h.ne, fun y hy => ?_, fun y hy => ?_, fun y hy => ?_, fun y hy => ?_, ?_, by rw [List.length_map]; exact h.len, fun a ha b hb hne => ?_⟩, ?_, fun q hq => ?_⟩
  · obtain ⟨x, hx, rfl⟩ := List.mem_map.1 hy
    rcases hcase x hx with ⟨rfl, he⟩ | ⟨hne, he⟩
    · rw [he]; exact hv
    · rw [he]; exact (h.sv x hx).chg hc (hW _ _ _ (h.sv x hx) (by decide) (h.apart x hx r hr hne).1)
  · obtain ⟨x, hx, rfl⟩ := List.mem_map.1 hy
    rcases hcase x hx with ⟨rfl, he⟩ | ⟨hne, he⟩
    · rw [he]; exact ho
    · rw [he]
      refine (h.bk x hx).chg hc fun q hq hm => ?_
      rcases hm with rfl | hm
      · exact absurd ((h.bk x hx).notVar hq hsr) (by decide)
      · exact (h.apart x hx r hr hne).2 q hq hm
  · obtain ⟨x, hx, rfl⟩ := List.mem_map.1 hy
    rcases hcase x hx with ⟨rfl, he⟩ | ⟨hne, he⟩
    · rw [he]; exact hri
    · rw [he]; exact h.rise x hx
  · obtain ⟨x, hx, rfl⟩ := List.mem_map.1 hy
    rcases hcase x hx with ⟨rfl, he⟩ | ⟨hne, he⟩
    · rw [he]; exact hfew
    · rw [he]; exact h.few x hx
  · rw [List.pairwise_map]
    exact h.ids.imp fun {a b} hab => by rw [(hgs a).1, (hgs b).1]; exact hab
  · obtain ⟨x, hx, rfl⟩ := List.mem_map.1 ha
    obtain ⟨y, hy, rfl⟩ := List.mem_map.1 hb
    rw [(hgs x).1, (hgs y).1] at hne
    refine ⟨by rw [(hgs x).2, (hgs y).2]; exact (h.apart x hx y hy hne).1, fun q hq hq2 => ?_⟩
    rcases hcase x hx with ⟨rfl, he⟩ | ⟨hne2, he⟩ <;> rcases hcase y hy with ⟨rfl, he2⟩ | ⟨hne3, he2⟩
    · exact hne rfl
    · rw [he] at hq; rw [he2] at hq2
      rcases hfr q hq with h1 | h1
      · exact (h.apart x hx y hy hne).2 q h1 hq2
      · have := hold y hy q hq2; omega
    · rw [he] at hq; rw [he2] at hq2
      rcases hfr q hq2 with h1 | h1
      · exact (h.apart x hx y hy hne).2 q hq h1
      · have := hold x hx q hq; omega
    · rw [he] at hq; rw [he2] at hq2
      exact (h.apart x hx y hy hne).2 q hq hq2
  · unfold absR
    rw [List.map_map, List.map_map]
    refine List.map_congr_left fun x hx => ?_
    simp only [Function.comp]
    rcases hcase x hx with ⟨rfl, he⟩ | ⟨hne, he⟩
    · rw [he, if_pos rfl]
    · rw [he, if_neg hne]
  · rcases hq with rfl | rfl | rfl | ⟨y, hy, hq⟩
    · exact .inl (.inl rfl)
    · exact .inl (.inr (.inl rfl))
    · exact .inl (.inr (.inr (.inl rfl)))
    · obtain ⟨x, hx, rfl⟩ := List.mem_map.1 hy
      rcases hcase x hx with ⟨rfl, he⟩ | ⟨hne, he⟩
      · rw [he] at hq
        rcases hq with rfl | hq
        · exact .inl (.inr (.inr (.inr ⟨x, hx, .inl rfl⟩)))
        · rcases hfr q hq with h1 | h1
          · exact .inl (.inr (.inr (.inr ⟨x, hx, .inr h1⟩)))
          · exact .inr h1
      · rw [he] at hq
        exact .inl (.inr (.inr (.inr ⟨x, hx, hq⟩)))

end Go.Proofs.Ytldeegpcldhjaaa
