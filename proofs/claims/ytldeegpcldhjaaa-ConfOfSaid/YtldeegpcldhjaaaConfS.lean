/- The plain law: a farm's calls keep it good, and good services can be laid. -/
import Derived.Test.YtldeegpcldhjaaaConfR
namespace Go.Proofs.Ytldeegpcldhjaaa
open Go Gx

/-- What the calls keep, but for what the farm's own shape says. -/
structure GoodF (A : List SB) : Prop where
  may : ∀ x ∈ A, mayS x.1 nilS = true
  doors : A.Pairwise fun a b => a.1.door ≠ b.1.door
  can : ∀ x ∈ A, ∀ b ∈ x.2, canB x.1 (undr b) = true
theorem GoodF.nil : GoodF [] := ⟨by simp, by simp, by simp⟩
theorem FarmAt.good {w : World} {fm : Fm} {R : List Rec} (h : FarmAt w fm R) (g : GoodF (absR R)) : GoodSB (absR R) := by
  refine ⟨?_, g.may, g.doors, ?_, ?_, ?_, g.can⟩
  · unfold absR
    rw [List.pairwise_map]; exact h.ids
  · unfold absR
    rw [List.length_map]; exact h.len
  · intro x hx
    obtain ⟨r, hr, rfl⟩ := List.mem_map.1 hx
    exact h.rise r hr
  · intro x hx
    obtain ⟨r, hr, rfl⟩ := List.mem_map.1 hx
    exact h.few r hr

theorem mayS_nil {s : Sv} {k : Sl} (h : mayS s k = true) : mayS s nilS = true := by
  unfold mayS at h ⊢
  simp only [Bool.and_eq_true] at h ⊢
  exact ⟨h.1, by decide⟩
theorem canB_undr {s : Sv} {b : Bk} (h : canB s b = true) : canB s (undr b) = true := by
  unfold canB at h ⊢
  simp only [Bool.and_eq_true] at h ⊢
  exact ⟨h.1, rfl⟩
theorem canB_weight {s : Sv} {b : Bk} {n : Int} (h : canB s (undr b) = true) (hn : weightOk n = true) : canB s (undr { b with weight := n }) = true := by
  unfold canB at h ⊢
  simp only [Bool.and_eq_true] at h ⊢
  exact ⟨⟨h.1.1, hn⟩, rfl⟩
theorem mem_modify {α : Type} {g : α → α} {x : α} : ∀ {l : List α} {i : Nat}, x ∈ l.modify i g → x ∈ l ∨ ∃ y ∈ l, x = g y
  | [], i, h => by simp at h
  | a :: l, 0, h => by
    simp only [List.modify_zero_cons, List.mem_cons] at h
    rcases h with rfl | h
    · exact .inr ⟨a, by simp, rfl⟩
    · exact .inl (by simp [h])
  | a :: l, i + 1, h => by
    simp only [List.modify_succ_cons, List.mem_cons] at h
    rcases h with rfl | h
    · exact .inl (by simp)
    · rcases mem_modify h with h | ⟨y, hy, e⟩
      · exact .inl (by simp [h])
      · exact .inr ⟨y, by simp [hy], e⟩

theorem GoodF.sub {A B : List SB} (h : GoodF A) (hs : B.Sublist A) : GoodF B := ⟨fun x hx => h.may x (hs.subset hx), h.doors.sublist hs, fun x hx => h.can x (hs.subset hx)⟩
theorem GoodF.upd {A : List SB} (h : GoodF A) (sid : Int) (g : List Bk → List Bk) (hg : ∀ x ∈ A, x.1.id = sid → ∀ b ∈ g x.2, canB x.1 (undr b) = true) : GoodF (updL A sid g) := by
  have hfst : (updL A sid g).map (·.1) = A.map (·.1) := by
    unfold updL
    rw [List.map_map]
    exact List.map_congr_left fun x _ => by simp only [Function.comp]; split <;> rfl
  have hmem : ∀ y ∈ updL A sid g, ∃ x ∈ A, y.1 = x.1 ∧ ∀ b ∈ y.2, canB x.1 (undr b) = true := fun y hy => by
    obtain ⟨x, hx, rfl⟩ := List.mem_map.1 hy
    refine ⟨x, hx, ?_, ?_⟩
    · split <;> rfl
    · split
      · rename_i he; exact hg x hx he
      · exact h.can x hx
  refine ⟨fun y hy => ?_, ?_, fun y hy => ?_⟩
  · obtain ⟨x, hx, e, _⟩ := hmem y hy; rw [e]; exact h.may x hx
  · refine (List.pairwise_map (f := fun y : SB => y.1) (R := fun a b : Sv => a.door ≠ b.door)).1 ?_
    rw [hfst]; exact List.pairwise_map.2 h.doors
  · obtain ⟨x, hx, e, hc⟩ := hmem y hy; rw [e]; exact hc
theorem GoodF.addService {A : List SB} (h : GoodF A) (hi : A.Pairwise fun a b => a.1.id < b.1.id) (s : Sv) (k : Sl) : GoodF (addService A s k).2 := by
  unfold Proofs.Ytldeegpcldhjaaa.addService
  split
  · rename_i hm
    split
    · exact h
    · rename_i ha
      split
      · exact h
      · rw [Bool.or_eq_true, not_or] at ha
        have h1 : ∀ y ∈ A, y.1.id ≠ s.id := fun y hy e => ha.1 (List.any_eq_true.2 ⟨y, hy, by simpa using e⟩)
        have h2 : ∀ y ∈ A, y.1.door ≠ s.door := fun y hy e => ha.2 (List.any_eq_true.2 ⟨y, hy, decide_eq_true e⟩)
        have hp := insBy_perm (fun x : SB => x.1.id) (s, []) A h1
        refine ⟨fun x hx => ?_, ?_, fun x hx => ?_⟩
        · rcases insBy_mem hx with rfl | hx
          · exact mayS_nil hm
          · exact h.may x hx
        · refine (hp.pairwise_iff fun {a b} hab => hab.symm).2 (List.pairwise_cons.2 ⟨fun y hy => (h2 y hy).symm, h.doors⟩)
        · rcases insBy_mem hx with rfl | hx
          · intro b hb; cases hb
          · exact h.can x hx
  · exact h
theorem GoodF.dropService {A : List SB} (h : GoodF A) (id : Int) : GoodF (dropService A id).2 := by
  unfold Proofs.Ytldeegpcldhjaaa.dropService
  split
  · exact h.sub List.filter_sublist
  · exact h
theorem GoodF.addBackend {A : List SB} (h : GoodF A) (hi : A.Pairwise fun a b => a.1.id < b.1.id) (sid : Int) (b : Bk) : GoodF (addBackend A sid b).2 := by
  unfold Proofs.Ytldeegpcldhjaaa.addBackend
  split
  · exact h
  · rename_i x hf
    have hx := List.mem_of_find?_eq_some hf
    have hid : x.1.id = sid := by simpa using List.find?_some hf
    split
    · rename_i hc
      split
      · exact h
      · split
        · exact h
        · refine h.upd sid (insB b) fun y hy hyi c hcm => ?_
          have hyx : y = x := ids_inj (f := fun y : SB => y.1.id) (List.pairwise_map.2 hi) hy hx (by rw [hyi, hid])
          subst hyx
          unfold insB at hcm
          simp only [List.append_assoc, List.mem_append, List.mem_singleton] at hcm
          rcases hcm with hcm | rfl | hcm
          · exact h.can y hy c (List.mem_of_mem_take hcm)
          · exact canB_undr hc
          · exact h.can y hy c (List.mem_of_mem_drop hcm)
    · exact h
theorem GoodF.dropBackend {A : List SB} (h : GoodF A) (sid bid : Int) : GoodF (dropBackend A sid bid).2 := by
  unfold Proofs.Ytldeegpcldhjaaa.dropBackend
  split
  · refine h.upd sid (delB bid) fun y hy _ c hcm => ?_
    unfold delB at hcm
    rcases List.mem_append.1 hcm with hcm | hcm
    · exact h.can y hy c (List.mem_of_mem_take hcm)
    · exact h.can y hy c (List.mem_of_mem_drop hcm)
  · exact h
theorem GoodF.drain {A : List SB} (h : GoodF A) (sid bid : Int) (on : Bool) : GoodF (drain A sid bid on).2 := by
  unfold Proofs.Ytldeegpcldhjaaa.drain
  split
  · refine h.upd sid _ fun y hy _ c hcm => ?_
    rcases mem_modify hcm with hcm | ⟨b, hb, rfl⟩
    · exact h.can y hy c hcm
    · exact h.can y hy b hb
  · exact h
theorem GoodF.weigh {A : List SB} (h : GoodF A) (sid bid n : Int) : GoodF (weigh A sid bid n).2 := by
  unfold Proofs.Ytldeegpcldhjaaa.weigh
  split
  · split
    · rename_i hn
      refine h.upd sid _ fun y hy _ c hcm => ?_
      rcases mem_modify hcm with hcm | ⟨b, hb, rfl⟩
      · exact h.can y hy c hcm
      · exact canB_weight (h.can y hy b hb) hn
    · exact h
  · exact h

/-! ### Good services can be laid -/
def undS (x : SB) : SB := (x.1, x.2.map undr)
theorem layB_good {M : List SB} {s : Sv} (hM : ∀ y ∈ M, y.1.id ≠ s.id) : ∀ (bs pre : List Bk), Rise (pre ++ bs) → (∀ b ∈ bs, canB s (undr b) = true) → (pre ++ bs).length ≤ 16 →
    layB s.id (M ++ [(s, pre.map undr)]) bs = some (M ++ [(s, (pre ++ bs).map undr)])
  | [], pre, _, _, _ => by simp [layB]
  | b :: bs, pre, hr, hc, hl => by
    have ha := rise_around hr
    have hA : Around (pre.map undr) [] (undr b).id := ⟨fun c hcm => by obtain ⟨d, hd, rfl⟩ := List.mem_map.1 hcm; exact ha.1 d hd, by simp⟩
    have hal : Alone M [] s.id := ⟨hM, by simp⟩
    have e : addBackend (M ++ [(s, pre.map undr)]) s.id (undr b) = (0, M ++ [(s, (pre ++ [b]).map undr)]) := by
      unfold addBackend
      rw [find_mid hal]
      have hg := hasB_gap hA
      rw [List.append_nil] at hg
      have hi := insB_gap hA
      rw [List.append_nil] at hi
      simp only
      rw [if_pos (hc b (by simp)), hg, if_neg (by simp), if_neg (by simp at hl ⊢; omega), upd_mid hal, hi]
      simp
    simp only [layB]
    rw [e, if_pos rfl]
    have := layB_good hM bs (pre ++ [b]) (by rw [List.append_assoc]; exact hr) (fun c hcm => hc c (by simp [hcm])) (by rw [List.append_assoc]; exact hl)
    rw [List.append_assoc] at this
    exact this
theorem layAll_of : ∀ (T P : List SB), GoodSB (P ++ T) → layAll (P.map undS) T = some ((P ++ T).map undS)
  | [], P, _ => by simp [layAll]
  | x :: T, P, h => by
    have hx : x ∈ P ++ x :: T := by simp
    have hP : ∀ y ∈ P, y.1.id < x.1.id := fun y hy => (List.pairwise_append.1 h.ids).2.2 y hy x (by simp)
    have hP' : ∀ y ∈ P.map undS, y.1.id < x.1.id := fun y hy => by obtain ⟨z, hz, rfl⟩ := List.mem_map.1 hy; exact hP z hz
    have hD : ∀ y ∈ P.map undS, y.1.door ≠ x.1.door := fun y hy => by obtain ⟨z, hz, rfl⟩ := List.mem_map.1 hy; exact (List.pairwise_append.1 h.doors).2.2 z hz x (by simp)
    have e1 := addS_mid (P := P.map undS) (Q := []) hP' (by simp) (h.may x hx) (by simpa using hD) (by have := h.len; simp at this ⊢; omega)
    rw [List.append_nil] at e1
    have e2 := layB_good (M := P.map undS) (s := x.1) (fun y hy => by have := hP' y hy; omega) x.2 [] (h.rise x hx) (h.can x hx) (h.few x hx)
    have e : layS (P.map undS) x = some ((P ++ [x]).map undS) := by
      unfold layS
      rw [e1, if_pos rfl]
      have e3 : layB x.1.id (P.map undS ++ [(x.1, [])]) x.2 = some (P.map undS ++ [(x.1, x.2.map undr)]) := e2
      rw [e3]
      simp only
      rw [if_pos (by unfold risesL; exact decide_eq_true (rise_of_map.2 (h.rise x hx)))]
      simp [undS]
    simp only [layAll]
    rw [e]
    have := layAll_of T (P ++ [x]) (by rw [List.append_assoc]; exact h)
    rw [List.append_assoc] at this
    exact this
theorem good_goodL {A : List SB} (h : GoodSB A) : goodL A = true := by
  have := layAll_of A [] h
  unfold goodL
  rw [Bool.and_eq_true]
  refine ⟨?_, ?_⟩
  · show (layAll ([].map undS) A).isSome = true
    rw [this]; rfl
  · unfold risesL
    exact decide_eq_true (List.pairwise_map.2 h.ids)

end Go.Proofs.Ytldeegpcldhjaaa
