/- The plain law: the steps from good services to others, done, make these. -/
import Derived.Test.YtldeegpcldhjaaaConfO
namespace Go.Proofs.Ytldeegpcldhjaaa
open Go Gx

/-! ### Steps done, all of them -/
def runL : List SB → List OpM → Option (List SB)
  | L, [] => some L
  | L, o :: O => if (doL L o).1 = 0 then runL (doL L o).2 O else none
theorem runL_app : ∀ (L : List SB) (O P : List OpM), runL L (O ++ P) = (runL L O).bind fun L' => runL L' P
  | L, [], P => rfl
  | L, o :: O, P => by
    simp only [List.cons_append, runL]
    split
    · exact runL_app _ O P
    · rfl
theorem applyL_run : ∀ {L : List SB} {O : List OpM} {L' : List SB} (i : Nat), runL L O = some L' → applyL L O i = (i + O.length, 0, L')
  | L, [], L', i, h => by cases h; rfl
  | L, o :: O, L', i, h => by
    simp only [runL] at h
    split at h
    · rename_i h0
      simp only [applyL]
      rw [if_pos h0, applyL_run (i + 1) h]
      simp only [List.length_cons]
      rw [show i + 1 + O.length = i + (O.length + 1) by omega]
    · cases h

theorem sorted_eq {α : Type} {f : α → Int} {a b : List α} (ha : a.Pairwise fun x y => f x < f y) (hb : b.Pairwise fun x y => f x < f y) (h : ∀ x, x ∈ a ↔ x ∈ b) : a = b := by
  have na : a.Nodup := ha.imp fun {x y} h e => by subst e; omega
  have nb : b.Nodup := hb.imp fun {x y} h e => by subst e; omega
  exact ((List.perm_ext_iff_of_nodup na nb).2 h).eq_of_pairwise (le := fun x y => f x < f y) (fun x y _ _ h1 h2 => by omega) ha hb

/-! ### One backend among others -/
section
variable {P Q : List Bk} {b : Bk}
def Around (P Q : List Bk) (id : Int) : Prop := (∀ c ∈ P, c.id < id) ∧ ∀ c ∈ Q, id < c.id
theorem posB_mid (h : Around P Q b.id) : posB (P ++ b :: Q) b.id = P.length := by
  unfold posB
  rw [List.findIdx_append, List.findIdx_eq_length_of_false fun x hx => decide_eq_false (by have := h.1 x hx; omega)]
  simp [List.findIdx_cons]
theorem posB_gap (h : Around P Q b.id) : posB (P ++ Q) b.id = P.length := by
  unfold posB
  rw [List.findIdx_append, List.findIdx_eq_length_of_false fun x hx => decide_eq_false (by have := h.1 x hx; omega)]
  cases Q with
  | nil => simp
  | cons c Q =>
    have := h.2 c (by simp)
    simp [List.findIdx_cons, show b.id ≤ c.id by omega]
theorem hasB_mid : hasB (P ++ b :: Q) b.id = true := by simp [hasB]
theorem hasB_gap (h : Around P Q b.id) : hasB (P ++ Q) b.id = false := by
  unfold hasB
  rw [List.any_eq_false]
  intro c hc
  rcases List.mem_append.1 hc with hc | hc
  · have := h.1 c hc; simp; omega
  · have := h.2 c hc; simp; omega
theorem insB_gap (h : Around P Q b.id) : insB b (P ++ Q) = P ++ b :: Q := by
  unfold insB
  rw [posB_gap h, List.take_left, List.drop_left, List.append_assoc]; rfl
theorem delB_mid (h : Around P Q b.id) : delB b.id (P ++ b :: Q) = P ++ Q := by
  unfold delB
  rw [posB_mid h, List.take_left, ← List.drop_drop, List.drop_left]; rfl
theorem modB_mid (h : Around P Q b.id) (g : Bk → Bk) : modB b.id g (P ++ b :: Q) = P ++ g b :: Q := by
  unfold modB
  rw [posB_mid h, modify_at]
theorem modB_mid' {i : Int} (hi : b.id = i) (h : Around P Q i) (g : Bk → Bk) : modB i g (P ++ b :: Q) = P ++ g b :: Q := by
  subst hi; exact modB_mid h g
theorem hasB_mid' {i : Int} (hi : b.id = i) : hasB (P ++ b :: Q) i = true := by subst hi; exact hasB_mid
end
theorem rise_around {P Q : List Bk} {b : Bk} (h : Rise (P ++ b :: Q)) : Around P Q b.id := by
  unfold Rise at h
  rw [List.pairwise_append, List.pairwise_cons] at h
  exact ⟨fun c hc => h.2.2 c hc b (by simp), fun c hc => h.2.1.1 c hc⟩

/-- A step on one service's backends. -/
def bkDo (s : Sv) (l : List Bk) (o : OpM) : Option (List Bk) :=
  if o.kind = 5 then if canB s o.to && !hasB l o.to.id && decide (l.length < 16) then some (insB o.to l) else none
  else if o.kind = 6 then if hasB l o.bid then some (delB o.bid l) else none
  else if o.kind = 7 then if hasB l o.bid then some (modB o.bid (fun b => { b with drained := o.on }) l) else none
  else if o.kind = 8 then if hasB l o.bid && weightOk (IntKind.wrap .i64 o.n) then some (modB o.bid (fun b => { b with weight := IntKind.wrap .i64 o.n }) l) else none
  else none
def runB (s : Sv) : List Bk → List OpM → Option (List Bk)
  | l, [] => some l
  | l, o :: O => (bkDo s l o).bind fun l' => runB s l' O
theorem runB_app (s : Sv) : ∀ (l : List Bk) (O P : List OpM), runB s l (O ++ P) = (runB s l O).bind fun l' => runB s l' P
  | l, [], P => rfl
  | l, o :: O, P => by
    simp only [List.cons_append, runB]
    cases bkDo s l o with
    | none => rfl
    | some l' => exact runB_app s l' O P

section
variable {P Q : List SB} {s : Sv} {l : List Bk}
def Alone (P Q : List SB) (id : Int) : Prop := (∀ y ∈ P, y.1.id ≠ id) ∧ ∀ y ∈ Q, y.1.id ≠ id
theorem find_mid (h : Alone P Q s.id) : (P ++ (s, l) :: Q).find? (fun x => x.1.id == s.id) = some (s, l) := by
  rw [List.find?_append, List.find?_eq_none.2 fun x hx => by simpa using h.1 x hx]
  simp
theorem upd_mid (h : Alone P Q s.id) (g : List Bk → List Bk) : updL (P ++ (s, l) :: Q) s.id g = P ++ (s, g l) :: Q := by
  unfold updL
  have hid : ∀ (R : List SB), (∀ y ∈ R, y.1.id ≠ s.id) → R.map (fun x => if x.1.id = s.id then (x.1, g x.2) else x) = R := fun R hR => by
    conv => rhs; rw [← List.map_id R]
    exact List.map_congr_left fun x hx => by rw [if_neg (hR x hx)]; rfl
  rw [List.map_append, List.map_cons, hid P h.1, hid Q h.2, if_pos rfl]
theorem has_mid (h : Alone P Q s.id) (bid : Int) : hasSB (P ++ (s, l) :: Q) s.id bid = hasB l bid := by
  unfold hasSB
  rw [List.any_append, List.any_cons]
  have h1 : P.any (fun x => (x.1.id == s.id) && hasB x.2 bid) = false := List.any_eq_false.2 fun x hx => by have := h.1 x hx; simp [this]
  have h2 : Q.any (fun x => (x.1.id == s.id) && hasB x.2 bid) = false := List.any_eq_false.2 fun x hx => by have := h.2 x hx; simp [this]
  rw [h1, h2]
  simp
theorem run_focus (h : Alone P Q s.id) : ∀ {l l' : List Bk} {O : List OpM}, (∀ o ∈ O, o.id = s.id) → runB s l O = some l' → runL (P ++ (s, l) :: Q) O = some (P ++ (s, l') :: Q)
  | l, l', [], _, hr => by cases hr; rfl
  | l, l', o :: O, hid, hr => by
    simp only [runB] at hr
    obtain ⟨l1, h1, h2⟩ := Option.bind_eq_some_iff.1 hr
    have ho : o.id = s.id := hid o (by simp)
    have key : doL (P ++ (s, l) :: Q) o = (0, P ++ (s, l1) :: Q) := by
      unfold bkDo at h1
      split at h1
      · rename_i k5
        split at h1
        · rename_i hc
          simp only [Bool.and_eq_true, Bool.not_eq_true', decide_eq_true_eq] at hc
          cases h1
          unfold doL
          rw [if_neg (by omega), if_neg (by omega), if_pos k5]
          unfold addBackend
          rw [ho, find_mid h]
          simp only
          rw [if_pos hc.1.1, hc.1.2]
          simp only [Bool.false_eq_true, if_false]
          rw [if_neg (by omega), upd_mid h]
        · cases h1
      · rename_i k5
        split at h1
        · rename_i k6
          split at h1
          · rename_i hc
            cases h1
            unfold doL
            rw [if_neg (by omega), if_neg (by omega), if_neg k5, if_pos k6]
            unfold dropBackend
            rw [ho, has_mid h, if_pos hc, upd_mid h]
          · cases h1
        · rename_i k6
          split at h1
          · rename_i k7
            split at h1
            · rename_i hc
              cases h1
              unfold doL
              rw [if_neg (by omega), if_neg (by omega), if_neg k5, if_neg k6, if_pos k7]
              unfold drain
              rw [ho, has_mid h, if_pos hc, upd_mid h]
            · cases h1
          · rename_i k7
            split at h1
            · rename_i k8
              split at h1
              · rename_i hc
                simp only [Bool.and_eq_true] at hc
                cases h1
                unfold doL
                rw [if_neg (by omega), if_neg (by omega), if_neg k5, if_neg k6, if_neg k7, if_pos k8]
                unfold weigh
                rw [ho, has_mid h, if_pos hc.1, if_pos hc.2, upd_mid h]
              · cases h1
            · cases h1
    simp only [runL, key, if_true]
    exact run_focus h (fun o ho => hid o (by simp [ho])) h2
end

theorem rise_of_map {l : List Bk} : (l.map (·.id)).Pairwise (· < ·) ↔ Rise l := by unfold Rise; rw [List.pairwise_map]

theorem run_drops (s : Sv) (p : Bk → Bool) : ∀ (R P : List Bk), Rise (P ++ R) → runB s (P ++ R) ((R.filter p).map fun b => oDropB s.id b.id) = some (P ++ R.filter fun b => !p b)
  | [], P, _ => by simp [runB]
  | r :: R, P, h => by
    have ha := rise_around h
    cases hp : p r with
    | true =>
      rw [List.filter_cons_of_pos hp, List.map_cons, List.filter_cons_of_neg (by simp [hp])]
      simp only [runB]
      have e : bkDo s (P ++ r :: R) (oDropB s.id r.id) = some (P ++ R) := by
        show (if hasB (P ++ r :: R) r.id then some (delB r.id (P ++ r :: R)) else none) = _
        rw [if_pos hasB_mid, delB_mid ha]
      rw [e, Option.bind_some]
      refine run_drops s p R P ?_
      unfold Rise at h ⊢
      exact List.Pairwise.sublist (List.Sublist.append_left (List.sublist_cons_self _ _) _) h
    | false =>
      rw [List.filter_cons_of_neg (by simp [hp]), List.filter_cons_of_pos (by simp [hp])]
      have := run_drops s p R (P ++ [r]) (by rw [List.append_assoc]; exact h)
      rw [List.append_assoc, List.append_assoc] at this
      exact this

theorem wrapW {n : Int} (h : weightOk n = true) : IntKind.wrap .i64 (u64w n) = n := by
  unfold weightOk at h
  simp only [Bool.and_eq_true, decide_eq_true_eq] at h
  unfold u64w
  rw [wr64 (by omega) (by omega), wrapi (by omega) (by omega)]

/-- What a backend's steps make of it. -/
theorem run_bk {s : Sv} {P Q : List Bk} {was : List Bk} {b : Bk} (ha : Around P Q b.id) (hc : canB s (undr b) = true) (hl : (P ++ b :: Q).length ≤ 16) :
    runB s (P ++ ((atL was b).toList ++ Q)) (bkOps was s.id b) = some (P ++ b :: Q) := by
  have hw : weightOk b.weight = true := by
    unfold canB at hc
    simp only [Bool.and_eq_true] at hc
    exact hc.1.2
  obtain ⟨o, ho⟩ : ∃ o, o = (atL was b).getD (undr b) := ⟨_, rfl⟩
  have hat : o.id = b.id ∧ o.addr = b.addr ∧ o.port = b.port := by
    cases h : atL was b with
    | none => rw [ho, h]; exact ⟨rfl, rfl, rfl⟩
    | some x =>
      have := List.find?_some h
      unfold sameAt at this
      simp only [Bool.and_eq_true, beq_iff_eq, decide_eq_true_eq] at this
      rw [ho, h]; exact ⟨this.1.1, this.1.2, this.2⟩
  have h1 : runB s (P ++ ((atL was b).toList ++ Q)) (if (atL was b).isSome then [] else [oAddB s.id (undr b)]) = some (P ++ o :: Q) := by
    cases h : atL was b with
    | none =>
      have hu : Around P Q (undr b).id := ha
      simp only [Option.isSome_none, Bool.false_eq_true, if_false, Option.toList_none, List.nil_append, runB]
      have e : bkDo s (P ++ Q) (oAddB s.id (undr b)) = some (P ++ undr b :: Q) := by
        show (if canB s (undr b) && !hasB (P ++ Q) (undr b).id && decide ((P ++ Q).length < 16) then some (insB (undr b) (P ++ Q)) else none) = _
        have hlen : (P ++ Q).length < 16 := by simp at hl ⊢; omega
        rw [hc, hasB_gap hu, decide_eq_true hlen, insB_gap hu]; rfl
      rw [e, ho, h]; rfl
    | some x => rw [ho, h]; rfl
  have ha2 : ∀ x : Bk, x.id = b.id → Around P Q x.id := fun x hx => by rw [hx]; exact ha
  have h2 : runB s (P ++ o :: Q) (if o.weight != b.weight then [oWeigh s.id b.id (u64w b.weight)] else []) = some (P ++ { o with weight := b.weight } :: Q) := by
    by_cases he : o.weight = b.weight
    · rw [he, if_neg (by simp)]
      show some _ = _
      congr 3
      cases o; cases he; rfl
    · rw [if_pos (by simpa using he)]
      simp only [runB]
      have e : bkDo s (P ++ o :: Q) (oWeigh s.id b.id (u64w b.weight)) = some (P ++ { o with weight := b.weight } :: Q) := by
        show (if hasB (P ++ o :: Q) b.id && weightOk (IntKind.wrap .i64 (u64w b.weight)) then some (modB b.id (fun x => { x with weight := IntKind.wrap .i64 (u64w b.weight) }) (P ++ o :: Q)) else none) = _
        rw [wrapW hw, hw, hasB_mid' hat.1, modB_mid' hat.1 ha]; rfl
      rw [e]; rfl
  have h3 : runB s (P ++ { o with weight := b.weight } :: Q) (if !(o.drained == b.drained) then [oDrain s.id b.id b.drained] else []) = some (P ++ b :: Q) := by
    have hb : ({ o with weight := b.weight, drained := b.drained } : Bk) = b := by
      obtain ⟨h1, h2, h3⟩ := hat
      cases o; cases b; simp_all
    by_cases he : o.drained = b.drained
    · rw [he, if_neg (by simp)]
      show some _ = _
      rw [← hb]
    · rw [if_pos (by simpa using he)]
      simp only [runB]
      have hid : ({ o with weight := b.weight } : Bk).id = b.id := hat.1
      have e : bkDo s (P ++ { o with weight := b.weight } :: Q) (oDrain s.id b.id b.drained) = some (P ++ b :: Q) := by
        show (if hasB (P ++ { o with weight := b.weight } :: Q) b.id then some (modB b.id (fun x => { x with drained := b.drained }) (P ++ { o with weight := b.weight } :: Q)) else none) = _
        rw [hasB_mid' hid, modB_mid' hid ha, if_pos rfl]
        exact congrArg (fun x => some (P ++ x :: Q)) hb
      rw [e]; rfl
  unfold bkOps
  rw [← ho, runB_app, runB_app, h1, Option.bind_some, h2, Option.bind_some, h3]

theorem run_bks {s : Sv} {was : List Bk} : ∀ (T P : List Bk), Rise (P ++ T) → (∀ b ∈ T, canB s (undr b) = true) → (P ++ T).length ≤ 16 → runB s (P ++ T.filterMap (atL was)) (T.flatMap (bkOps was s.id)) = some (P ++ T)
  | [], P, _, _, _ => by simp [runB]
  | b :: T, P, h, hc, hl => by
    have hat : ∀ c x, atL was c = some x → x.id = c.id := fun c x hx => by
      have := List.find?_some hx
      unfold sameAt at this
      simp only [Bool.and_eq_true, beq_iff_eq] at this
      exact this.1.1
    have ha := rise_around h
    have ha' : Around P (T.filterMap (atL was)) b.id := ⟨ha.1, fun c hc => by
      obtain ⟨y, hy, hyc⟩ := List.mem_filterMap.1 hc
      rw [hat y c hyc]; exact ha.2 y hy⟩
    have hlen : (P ++ b :: T.filterMap (atL was)).length ≤ 16 := by
      have := List.length_filterMap_le (atL was) T
      simp at hl ⊢; omega
    rw [List.flatMap_cons, runB_app]
    have e : List.filterMap (atL was) (b :: T) = (atL was b).toList ++ T.filterMap (atL was) := by
      cases hab : atL was b <;> simp only [List.filterMap_cons, hab] <;> rfl
    rw [e, run_bk ha' (hc b (by simp)) hlen, Option.bind_some]
    have := run_bks (s := s) (was := was) T (P ++ [b]) (by rw [List.append_assoc]; exact h) (fun c hc2 => hc c (by simp [hc2])) (by rw [List.append_assoc]; exact hl)
    rw [List.append_assoc, List.append_assoc] at this
    exact this

theorem sameAt_symm (a b : Bk) : sameAt a b = sameAt b a := by
  unfold sameAt
  rw [Bool.eq_iff_iff]
  simp only [Bool.and_eq_true, beq_iff_eq, decide_eq_true_eq]
  exact ⟨fun ⟨⟨h1, h2⟩, h3⟩ => ⟨⟨h1.symm, h2.symm⟩, h3.symm⟩, fun ⟨⟨h1, h2⟩, h3⟩ => ⟨⟨h1.symm, h2.symm⟩, h3.symm⟩⟩
theorem sameAt_id {a b : Bk} (h : sameAt a b = true) : a.id = b.id := by
  unfold sameAt at h
  simp only [Bool.and_eq_true, beq_iff_eq] at h
  exact h.1.1
theorem rise_inj {l : List Bk} (h : Rise l) {a b : Bk} (ha : a ∈ l) (hb : b ∈ l) (he : a.id = b.id) : a = b := ids_inj (f := fun b : Bk => b.id) (rise_of_map.2 h) ha hb he
theorem atL_iff {l : List Bk} (h : Rise l) (b x : Bk) : atL l b = some x ↔ x ∈ l ∧ sameAt x b = true := by
  constructor
  · intro hx
    exact ⟨List.mem_of_find?_eq_some hx, by have := List.find?_some hx; exact this⟩
  · rintro ⟨hx, hs⟩
    cases hf : atL l b with
    | none =>
      have := List.find?_eq_none.1 hf x hx
      exact absurd hs this
    | some y =>
      have h1 : y ∈ l := List.mem_of_find?_eq_some hf
      have h2 : sameAt y b = true := by have := List.find?_some hf; exact this
      rw [rise_inj h h1 hx (by rw [sameAt_id h2, sameAt_id hs])]
/-- What is left of the backends that were there. -/
theorem left_bks {was bs : List Bk} (h1 : Rise was) (h2 : Rise bs) : (was.filter fun b => !(atL bs b).isNone) = bs.filterMap (atL was) := by
  refine sorted_eq (f := fun b : Bk => b.id) (List.Pairwise.filter _ h1) ?_ fun x => ?_
  · rw [List.pairwise_filterMap]
    exact h2.imp fun {a b} hab x hx y hy => by
      rw [sameAt_id ((atL_iff h1 a x).1 hx).2, sameAt_id ((atL_iff h1 b y).1 hy).2]; exact hab
  · rw [List.mem_filter, List.mem_filterMap]
    constructor
    · rintro ⟨hx, hn⟩
      cases ha : atL bs x with
      | none => rw [ha] at hn; cases hn
      | some y =>
        obtain ⟨hy, hs⟩ := (atL_iff h2 x y).1 ha
        exact ⟨y, hy, (atL_iff h1 y x).2 ⟨hx, by rw [sameAt_symm]; exact hs⟩⟩
    · rintro ⟨y, hy, hxy⟩
      obtain ⟨hx, hs⟩ := (atL_iff h1 y x).1 hxy
      refine ⟨hx, ?_⟩
      rw [(atL_iff h2 x y).2 ⟨hy, by rw [sameAt_symm]; exact hs⟩]; rfl

/-- A service's steps but for its own. -/
theorem run_sv {s : Sv} {was bs : List Bk} (h1 : Rise was) (h2 : Rise bs) (hc : ∀ b ∈ bs, canB s (undr b) = true) (hl : bs.length ≤ 16) :
    runB s was (((was.filter fun b => (atL bs b).isNone).map fun b => oDropB s.id b.id) ++ bs.flatMap (bkOps was s.id)) = some bs := by
  have e1 := run_drops s (fun b => (atL bs b).isNone) was [] h1
  rw [List.nil_append, List.nil_append, left_bks h1 h2] at e1
  rw [runB_app, e1, Option.bind_some]
  exact run_bks bs [] h2 hc hl

end Go.Proofs.Ytldeegpcldhjaaa
