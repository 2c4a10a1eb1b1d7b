/- Contracts of the functions that the statement reaches, and the plain laws over them; each theorem stands with its conditions. -/
import Derived.Laws.Externs
import Derived.Laws.Small
import Derived.Lib.Builder
import Derived.Lib.Bytealg
import Derived.Lib.ConvBytes
import Derived.Lib.MakeNoZero
import Derived.Lib.SlBytesConst
import Derived.Lib.UnsafeStr
import Derived.Test.YtplieiecebljmaaGreatVNone2
namespace Go.Proofs.YtplieiecebljmaaGreat
abbrev Key := List UInt8
abbrev KV := Key × Key
def cmpK : Key → Key → Int
 | [], [] => 0
 | [], _ :: _ => -1
 | _ :: _, [] => 1
 | a :: x, b :: y => if a.toNat < b.toNat then -1 else if b.toNat < a.toNat then 1 else cmpK x y
theorem u8_eq {a b : UInt8} (h1 : ¬ a.toNat < b.toNat) (h2 : ¬ b.toNat < a.toNat) : a = b := UInt8.toNat_inj.1 (by omega)
theorem cmpK_self : ∀ a : Key, cmpK a a = 0
 | [] => rfl
 | a :: x => by simp [cmpK, cmpK_self x]
theorem cmpK_zero : ∀ {a b : Key}, cmpK a b = 0 → a = b
 | [], [], _ => rfl
 | [], _ :: _, h => by simp [cmpK] at h
 | _ :: _, [], h => by simp [cmpK] at h
 | a :: x, b :: y, h => by
   unfold cmpK at h
   split at h
   · cases h
   · rename_i h1
     split at h
     · cases h
     · rename_i h2
       rw [u8_eq h1 h2, cmpK_zero h]
theorem cmpK_iff {a b : Key} : cmpK a b = 0 ↔ a = b := ⟨cmpK_zero, fun h => h ▸ cmpK_self _⟩
theorem cmpK_range : ∀ a b : Key, cmpK a b = -1 ∨ cmpK a b = 0 ∨ cmpK a b = 1
 | [], [] => .inr (.inl rfl)
 | [], _ :: _ => .inl rfl
 | _ :: _, [] => .inr (.inr rfl)
 | a :: x, b :: y => by
   unfold cmpK
   split
   · exact .inl rfl
   · split
     · exact .inr (.inr rfl)
     · exact cmpK_range x y
theorem cmpK_swap : ∀ a b : Key, cmpK b a = - cmpK a b
 | [], [] => rfl
 | [], _ :: _ => rfl
 | _ :: _, [] => rfl
 | a :: x, b :: y => by
   unfold cmpK
   by_cases h1 : a.toNat < b.toNat
   · have h2 : ¬ b.toNat < a.toNat := by omega
     simp [h1, h2]
   · by_cases h2 : b.toNat < a.toNat
     · simp [h1, h2]
     · simp only [h1, h2, if_false]
       exact cmpK_swap x y
theorem cmpK_trans : ∀ {a b c : Key}, cmpK a b < 0 → cmpK b c < 0 → cmpK a c < 0
 | [], [], _, h, _ => by simp [cmpK] at h
 | [], _ :: _, [], _, h => by simp [cmpK] at h
 | [], _ :: _, _ :: _, _, _ => by simp [cmpK]
 | _ :: _, [], _, h, _ => by simp [cmpK] at h
 | _ :: _, _ :: _, [], _, h => by simp [cmpK] at h
 | a :: x, b :: y, c :: z, h1, h2 => by
   unfold cmpK at h1 h2 ⊢
   by_cases a1 : a.toNat < b.toNat
   · by_cases a2 : b.toNat < c.toNat
     · rw [if_pos (by omega)]; decide
     · rw [if_neg a2] at h2
       by_cases a3 : c.toNat < b.toNat
       · rw [if_pos a3] at h2; omega
       · rw [if_pos (by omega)]; decide
   · rw [if_neg a1] at h1
     by_cases a2 : b.toNat < a.toNat
     · rw [if_pos a2] at h1; omega
     · rw [if_neg a2] at h1
       by_cases a3 : b.toNat < c.toNat
       · rw [if_pos (by omega)]; decide
       · rw [if_neg a3] at h2
         by_cases a4 : c.toNat < b.toNat
         · rw [if_pos a4] at h2; omega
         · rw [if_neg a4] at h2
           rw [if_neg (by omega), if_neg (by omega)]
           exact cmpK_trans h1 h2
def ltK (a b : Key) : Prop := cmpK a b < 0
def leK (a b : Key) : Prop := ¬ cmpK b a < 0
instance (a b : Key) : Decidable (ltK a b) := by unfold ltK; infer_instance
instance (a b : Key) : Decidable (leK a b) := by unfold leK; infer_instance
theorem ltK_trans {a b c : Key} (h1 : ltK a b) (h2 : ltK b c) : ltK a c := cmpK_trans h1 h2
theorem ltK_irr (a : Key) : ¬ ltK a a := by unfold ltK; rw [cmpK_self]; decide
theorem ltK_asym {a b : Key} (h : ltK a b) : ¬ ltK b a := fun h2 => ltK_irr a (ltK_trans h h2)
theorem ltK_tri (a b : Key) : ltK a b ∨ a = b ∨ ltK b a := by
 unfold ltK
 have h := cmpK_swap a b
 rcases cmpK_range a b with h1 | h1 | h1
 · exact .inl (by omega)
 · exact .inr (.inl (cmpK_zero h1))
 · exact .inr (.inr (by omega))
theorem leK_iff {a b : Key} : leK a b ↔ ltK a b ∨ a = b := by
 constructor
 · intro h
   rcases ltK_tri a b with h1 | h1 | h1
   · exact .inl h1
   · exact .inr h1
   · exact absurd h1 h
 · rintro (h | rfl)
   · exact ltK_asym h
   · exact ltK_irr _
theorem leK_refl (a : Key) : leK a a := ltK_irr a
theorem leK_of_lt {a b : Key} (h : ltK a b) : leK a b := leK_iff.2 (.inl h)
theorem not_ltK {a b : Key} : ¬ ltK a b ↔ leK b a := Iff.rfl
theorem ltK_of_lt_of_le {a b c : Key} (h1 : ltK a b) (h2 : leK b c) : ltK a c := by
 rcases leK_iff.1 h2 with h | rfl
 · exact ltK_trans h1 h
 · exact h1
theorem ltK_of_le_of_lt {a b c : Key} (h1 : leK a b) (h2 : ltK b c) : ltK a c := by
 rcases leK_iff.1 h1 with h | rfl
 · exact ltK_trans h h2
 · exact h2
theorem leK_trans {a b c : Key} (h1 : leK a b) (h2 : leK b c) : leK a c := by
 rcases leK_iff.1 h1 with h | rfl
 · exact leK_of_lt (ltK_of_lt_of_le h h2)
 · exact h2
def Rising (l : List KV) : Prop := l.Pairwise fun a b => ltK a.1 b.1
def putL (l : List KV) (k v : Key) : List KV := (l.filter fun p => decide (ltK p.1 k)) ++ (k, v) :: l.filter fun p => decide (ltK k p.1)
def delL (l : List KV) (k : Key) : List KV := l.filter fun p => decide (p.1 ≠ k)
def getL (l : List KV) (k : Key) : Option Key := (l.find? fun p => decide (p.1 = k)).map (·.2)
def inB (lo hi : Option Key) (k : Key) : Prop := (∀ a, lo = some a → leK a k) ∧ (∀ b, hi = some b → ltK k b)
theorem putL_app_left {a b : List KV} {k v : Key} (h : ∀ p ∈ b, ltK k p.1) : putL (a ++ b) k v = putL a k v ++ b := by
 have e1 : b.filter (fun p => decide (ltK p.1 k)) = [] := List.filter_eq_nil_iff.2 fun p hp => by simpa using ltK_asym (h p hp)
 have e2 : b.filter (fun p => decide (ltK k p.1)) = b := List.filter_eq_self.2 fun p hp => decide_eq_true (h p hp)
 unfold putL
 rw [List.filter_append, List.filter_append, e1, e2, List.append_nil, List.append_assoc, List.cons_append]
theorem putL_app_right {a b : List KV} {k v : Key} (h : ∀ p ∈ a, ltK p.1 k) : putL (a ++ b) k v = a ++ putL b k v := by
 have e1 : a.filter (fun p => decide (ltK p.1 k)) = a := List.filter_eq_self.2 fun p hp => decide_eq_true (h p hp)
 have e2 : a.filter (fun p => decide (ltK k p.1)) = [] := List.filter_eq_nil_iff.2 fun p hp => by simpa using ltK_asym (h p hp)
 unfold putL
 rw [List.filter_append, List.filter_append, e1, e2, List.nil_append, List.append_assoc]
theorem delL_app (a b : List KV) (k : Key) : delL (a ++ b) k = delL a k ++ delL b k := List.filter_append ..
theorem delL_none {a : List KV} {k : Key} (h : ∀ p ∈ a, p.1 ≠ k) : delL a k = a := List.filter_eq_self.2 fun p hp => decide_eq_true (h p hp)
theorem ltK_ne {a b : Key} (h : ltK a b) : a ≠ b := fun e => ltK_irr b (e ▸ h)
theorem rising_app {a b : List KV} : Rising (a ++ b) ↔ Rising a ∧ Rising b ∧ ∀ p ∈ a, ∀ q ∈ b, ltK p.1 q.1 := List.pairwise_append
end Go.Proofs.YtplieiecebljmaaGreat
namespace Go.Proofs.YtplieiecebljmaaGreat
structure Nd where
 leaf : Bool
 keys : List Key
 vals : List Key
 kids : List Nat
 deriving DecidableEq
abbrev Below := Option Key → Option Key → Nat → List Nat → List KV → Prop
inductive Seg (W : Below) : Option Key → Option Key → List Key → List Nat → List Nat → List KV → Prop
 | one {lo hi : Option Key} {k : Nat} {p : List Nat} {L : List KV} (h : W lo hi k p L) : Seg W lo hi [] [k] p L
 | cons {lo hi : Option Key} {s : Key} {k : Nat} {p1 p2 : List Nat} {L1 L2 : List KV} {ks : List Key} {kids : List Nat} (h : W lo (some s) k p1 L1) (t : Seg W (some s) hi ks kids p2 L2) :
     Seg W lo hi (s :: ks) (k :: kids) (p1 ++ p2) (L1 ++ L2)
variable {W : Below} {lo hi : Option Key}
theorem Seg.len {ks : List Key} {kids p : List Nat} {L : List KV} (h : Seg W lo hi ks kids p L) : kids.length = ks.length + 1 := by
 induction h with
 | one _ => rfl
 | cons _ _ ih => simp [ih]
theorem Seg.app {s : Key} {ks1 ks2 : List Key} {kids1 kids2 p1 p2 : List Nat} {L1 L2 : List KV} (h1 : Seg W lo (some s) ks1 kids1 p1 L1) (h2 : Seg W (some s) hi ks2 kids2 p2 L2) :
   Seg W lo hi (ks1 ++ s :: ks2) (kids1 ++ kids2) (p1 ++ p2) (L1 ++ L2) := by
 generalize hm : some s = m at h1
 induction h1 with
 | one h => subst hm; exact .cons h h2
 | cons h t ih =>
   rw [List.append_assoc, List.append_assoc]
   exact .cons h (ih hm)
theorem Seg.cut : ∀ {ks1 : List Key} {s : Key} {ks2 : List Key} {lo : Option Key} {kids p : List Nat} {L : List KV}, Seg W lo hi (ks1 ++ s :: ks2) kids p L →
   ∃ (kids1 kids2 p1 p2 : List Nat) (L1 L2 : List KV), kids = kids1 ++ kids2 ∧ p = p1 ++ p2 ∧ L = L1 ++ L2 ∧ Seg W lo (some s) ks1 kids1 p1 L1 ∧ Seg W (some s) hi ks2 kids2 p2 L2
 | [], s, ks2, lo, kids, p, L, h => by
   cases h with
   | cons h t => exact ⟨_, _, _, _, _, _, rfl, rfl, rfl, .one h, t⟩
 | a :: ks1, s, ks2, lo, kids, p, L, h => by
   cases h with
   | cons h t =>
     obtain ⟨k1, k2, p1, p2, L1, L2, rfl, rfl, rfl, h1, h2⟩ := Seg.cut t
     exact ⟨_ :: k1, k2, _ ++ p1, p2, _ ++ L1, L2, rfl, by rw [List.append_assoc], by rw [List.append_assoc], .cons h h1, h2⟩
theorem Seg.monoP {V : Below} {ks : List Key} {kids p : List Nat} {L : List KV} (h : Seg W lo hi ks kids p L) (hm : ∀ lo hi k p' L, (∀ x ∈ p', x ∈ p) → W lo hi k p' L → V lo hi k p' L) : Seg V lo hi ks kids p L := by
 induction h with
 | one h => exact .one (hm _ _ _ _ _ (fun _ h => h) h)
 | cons h _ ih =>
   exact .cons (hm _ _ _ _ _ (fun x hx => List.mem_append_left _ hx) h) (ih fun lo hi k p' L hs => hm lo hi k p' L fun x hx => List.mem_append_right _ (hs x hx))
def keyOk (k : Key) : Prop := 1 ≤ k.length ∧ k.length ≤ 24
structure KeysOk (n : Nd) : Prop where
 ok : ∀ k ∈ n.keys, keyOk k
 rise : n.keys.Pairwise ltK
structure LeafOk (n : Nd) : Prop extends KeysOk n where
 leaf : n.leaf = true
 len : n.vals.length = n.keys.length
 kids : n.kids = []
 vals : ∀ v ∈ n.vals, v.length ≤ 24
structure InnerOk (n : Nd) : Prop extends KeysOk n where
 inner : n.leaf = false
 some : n.keys ≠ []
 len : n.kids.length = n.keys.length + 1
 vals : n.vals = []
 kids : ∀ k ∈ n.kids, k < 1600
def Nd.pairs (n : Nd) : List KV := n.keys.zip n.vals
def Nd.within (n : Nd) (lo hi : Option Key) : Prop := ∀ k ∈ n.keys, inB lo hi k
def Wf (P : Nat → Option Nd) : Nat → Below
 | 0 => fun _ _ _ _ _ => False
 | 1 => fun lo hi no p L => ∃ n, P no = some n ∧ LeafOk n ∧ n.within lo hi ∧ n.keys ≠ [] ∧ p = [no] ∧ L = n.pairs
 | h + 2 => fun lo hi no p L => ∃ n p', P no = some n ∧ InnerOk n ∧ n.within lo hi ∧ p = no :: p' ∧
     Seg (fun lo hi k p L => Wf P (h + 1) lo hi k p L ∧ ∃ m, P k = some m ∧ 2 ≤ m.keys.length) lo hi n.keys n.kids p' L
theorem Wf.agree {P Q : Nat → Option Nd} : ∀ {h : Nat} {lo hi : Option Key} {no : Nat} {p : List Nat} {L : List KV}, Wf P h lo hi no p L → (∀ x ∈ p, P x = Q x) → Wf Q h lo hi no p L ∧ no ∈ p
 | 0, _, _, _, _, _, hw, _ => hw.elim
 | 1, _, _, no, _, _, ⟨n, h1, h2, h3, h4, h5, h6⟩, hq => by
   have hm : no ∈ [no] := by simp
   rw [h5]
   exact ⟨⟨n, by rw [← hq no (by rw [h5]; exact hm)]; exact h1, h2, h3, h4, rfl, h6⟩, hm⟩
 | h + 2, _, _, no, _, _, ⟨n, p', h1, h2, h3, h4, h5⟩, hq => by
   subst h4
   refine ⟨⟨n, p', by rw [← hq no (by simp)]; exact h1, h2, h3, rfl, h5.monoP fun lo hi k q L hs ⟨hw, m, hm, h2⟩ => ?_⟩, by simp⟩
   have := Wf.agree hw fun x hx => hq x (List.mem_cons_of_mem _ (hs x hx))
   exact ⟨this.1, m, by rw [← hq k (List.mem_cons_of_mem _ (hs k this.2))]; exact hm, h2⟩
end Go.Proofs.YtplieiecebljmaaGreat
namespace Go.Proofs.YtplieiecebljmaaGreat
variable {W : Below} {lo hi : Option Key} {P : Nat → Option Nd}
theorem inB_lo {lo hi : Option Key} {s k : Key} (h1 : inB lo (some s) k) (h2 : inB lo hi s) : inB lo hi k :=
 ⟨h1.1, fun b hb => ltK_trans (h1.2 s rfl) (h2.2 b hb)⟩
theorem inB_hi {lo hi : Option Key} {s k : Key} (h1 : inB (some s) hi k) (h2 : inB lo hi s) : inB lo hi k :=
 ⟨fun a ha => leK_trans (h2.1 a ha) (h1.1 s rfl), h1.2⟩
theorem Seg.rise {ks : List Key} {kids p : List Nat} {L : List KV} (h : Seg W lo hi ks kids p L) (hW : ∀ lo hi k p L, W lo hi k p L → Rising L ∧ ∀ q ∈ L, inB lo hi q.1) (hk : ks.Pairwise ltK) (hb : ∀ s ∈ ks, inB lo hi s) :
   Rising L ∧ ∀ q ∈ L, inB lo hi q.1 := by
 induction h with
 | one h => exact hW _ _ _ _ _ h
 | @cons lo hi s k p1 p2 L1 L2 ks kids h t ih =>
   obtain ⟨r1, b1⟩ := hW _ _ _ _ _ h
   have hks := List.pairwise_cons.1 hk
   obtain ⟨r2, b2⟩ := ih hks.2 fun x hx => ⟨fun a ha => by cases ha; exact leK_of_lt (hks.1 x hx), (hb x (List.mem_cons_of_mem _ hx)).2⟩
   have hs := hb s List.mem_cons_self
   refine ⟨rising_app.2 ⟨r1, r2, fun x hx y hy => ltK_of_lt_of_le ((b1 x hx).2 s rfl) ((b2 y hy).1 s rfl)⟩, fun q hq => ?_⟩
   rcases List.mem_append.1 hq with hq | hq
   · exact inB_lo (b1 q hq) hs
   · exact inB_hi (b2 q hq) hs
theorem pairs_rise : ∀ {ks vs : List Key}, ks.Pairwise ltK → Rising (ks.zip vs)
 | [], vs, _ => by rw [List.zip_nil_left]; exact List.Pairwise.nil
 | k :: ks, [], _ => by rw [List.zip_nil_right]; exact List.Pairwise.nil
 | k :: ks, v :: vs, h => by
   rw [List.zip_cons_cons]
   have := List.pairwise_cons.1 h
   exact List.pairwise_cons.2 ⟨fun q hq => this.1 _ (List.of_mem_zip hq).1, pairs_rise this.2⟩
theorem LeafOk.pairs {n : Nd} (h : LeafOk n) : Rising n.pairs ∧ n.pairs.length = n.keys.length := ⟨pairs_rise h.rise, by unfold Nd.pairs; rw [List.length_zip, h.len, Nat.min_self]⟩
theorem Wf.rise : ∀ {h : Nat} {lo hi : Option Key} {no : Nat} {p : List Nat} {L : List KV}, Wf P h lo hi no p L → Rising L ∧ ∀ q ∈ L, inB lo hi q.1
 | 0, _, _, _, _, _, hw => hw.elim
 | 1, _, _, _, _, _, ⟨n, _, h2, h3, _, _, h6⟩ => by
   subst h6
   exact ⟨h2.pairs.1, fun q hq => h3 _ (List.of_mem_zip hq).1⟩
 | h + 2, _, _, _, _, _, ⟨n, _, _, h2, h3, _, h5⟩ => h5.rise (fun _ _ _ _ _ hw => Wf.rise hw.1) h2.rise h3
theorem Seg.count {ks : List Key} {kids p : List Nat} {L : List KV} (h : Seg W lo hi ks kids p L) {c : Nat} (hW : ∀ lo hi k p L, W lo hi k p L → p.length + 1 ≤ L.length ∧ c ≤ L.length) :
   p.length + kids.length ≤ L.length ∧ c * kids.length ≤ L.length := by
 induction h with
 | one h => have := hW _ _ _ _ _ h; simp; omega
 | cons h _ ih =>
   have := hW _ _ _ _ _ h
   simp only [List.length_append, List.length_cons, Nat.mul_add, Nat.mul_one]
   omega
theorem Wf.count : ∀ {h : Nat} {lo hi : Option Key} {no : Nat} {p : List Nat} {L : List KV}, Wf P h lo hi no p L → ((∃ m, P no = some m ∧ 2 ≤ m.keys.length) ∨ 2 ≤ h) → p.length + 1 ≤ L.length ∧ 2 ^ h ≤ L.length
 | 0, _, _, _, _, _, hw, _ => hw.elim
 | 1, _, _, _, _, _, ⟨n, h1, h2, _, _, h5, h6⟩, hm => by
   rcases hm with ⟨m, e, hm⟩ | hm
   · rw [h1] at e
     cases e
     subst h5 h6
     have := h2.pairs.2
     simp only [List.length_singleton]; omega
   · omega
 | h + 2, _, _, _, _, _, ⟨n, p', _, h2, _, h4, h5⟩, _ => by
   have hc := h5.count (c := 2 ^ (h + 1)) fun lo hi k p L ⟨hw, hm⟩ => Wf.count hw (.inl hm)
   have hl := h2.len
   have hs : 1 ≤ n.keys.length := List.length_pos_iff.2 h2.some
   subst h4
   have : 2 ^ (h + 1) * 2 ≤ 2 ^ (h + 1) * n.kids.length := Nat.mul_le_mul_left _ (by omega)
   rw [Nat.pow_succ 2 (h + 1)]
   simp only [List.length_cons]
   omega
theorem Wf.pages {h : Nat} {lo hi : Option Key} {no : Nat} {p : List Nat} {L : List KV} (hw : Wf P h lo hi no p L) : p.length ≤ L.length ∧ 1 ≤ L.length ∧ (2 ≤ h → 2 ^ h ≤ L.length) := by
 match h with
 | 0 => exact hw.elim
 | 1 =>
   obtain ⟨n, h1, h2, _, h4, h5, h6⟩ := hw
   subst h5 h6
   have := h2.pairs.2
   have h7 := List.length_pos_iff.2 h4
   simp only [List.length_singleton]
   exact ⟨by omega, by omega, by omega⟩
 | h + 2 =>
   have := Wf.count hw (.inr (by omega))
   exact ⟨by omega, by omega, fun _ => this.2⟩
end Go.Proofs.YtplieiecebljmaaGreat
namespace Go.Proofs.YtplieiecebljmaaGreat
variable {W V : Below} {lo hi : Option Key}
inductive Pre (W : Below) (lo : Option Key) : Option Key → List Key → List Nat → List Nat → List KV → Prop
 | nil : Pre W lo lo [] [] [] []
 | more {s : Key} {ks : List Key} {kids p : List Nat} {L : List KV} (h : Seg W lo (some s) ks kids p L) : Pre W lo (some s) (ks ++ [s]) kids p L
inductive Post (W : Below) (hi : Option Key) : Option Key → List Key → List Nat → List Nat → List KV → Prop
 | nil : Post W hi hi [] [] [] []
 | more {s : Key} {ks : List Key} {kids p : List Nat} {L : List KV} (h : Seg W (some s) hi ks kids p L) : Post W hi (some s) (s :: ks) kids p L
variable {m : Option Key} {ks1 ks2 : List Key} {kids1 kids2 p1 p2 : List Nat} {L1 L2 : List KV}
theorem Pre.seg (h1 : Pre W lo m ks1 kids1 p1 L1) (h2 : Seg W m hi ks2 kids2 p2 L2) : Seg W lo hi (ks1 ++ ks2) (kids1 ++ kids2) (p1 ++ p2) (L1 ++ L2) := by
 cases h1 with
 | nil => exact h2
 | more h => rw [List.append_assoc]; exact h.app h2
theorem Seg.post (h1 : Seg W lo m ks1 kids1 p1 L1) (h2 : Post W hi m ks2 kids2 p2 L2) : Seg W lo hi (ks1 ++ ks2) (kids1 ++ kids2) (p1 ++ p2) (L1 ++ L2) := by
 cases h2 with
 | nil => simpa using h1
 | more h => exact h1.app h
theorem Pre.cons {s : Key} {k : Nat} {p : List Nat} {L : List KV} (h : W lo (some s) k p L) (t : Pre W (some s) m ks1 kids1 p1 L1) : Pre W lo m (s :: ks1) (k :: kids1) (p ++ p1) (L ++ L1) := by
 cases t with
 | nil => rw [List.append_nil, List.append_nil]; exact Pre.more (ks := []) (.one h)
 | more t => exact Pre.more (ks := s :: _) (.cons h t)
theorem Pre.monoP (h : Pre W lo m ks1 kids1 p1 L1) (hm : ∀ lo hi k p' L, (∀ x ∈ p', x ∈ p1) → W lo hi k p' L → V lo hi k p' L) : Pre V lo m ks1 kids1 p1 L1 := by
 cases h with
 | nil => exact .nil
 | more h => exact .more (h.monoP hm)
theorem Post.monoP (h : Post W hi m ks1 kids1 p1 L1) (hm : ∀ lo hi k p' L, (∀ x ∈ p', x ∈ p1) → W lo hi k p' L → V lo hi k p' L) : Post V hi m ks1 kids1 p1 L1 := by
 cases h with
 | nil => exact .nil
 | more h => exact .more (h.monoP hm)
theorem Seg.at {ks : List Key} {kids p : List Nat} {L : List KV} (h : Seg W lo hi ks kids p L) : ∀ (i : Nat) (hk : i < kids.length), ∃ (lo' hi' : Option Key) (p1 q p2 : List Nat) (L1 M L2 : List KV),
   p = p1 ++ (q ++ p2) ∧ L = L1 ++ (M ++ L2) ∧ W lo' hi' kids[i] q M ∧ Pre W lo lo' (ks.take i) (kids.take i) p1 L1 ∧ Post W hi hi' (ks.drop i) (kids.drop (i + 1)) p2 L2 := by
 induction h with
 | @one lo hi k p L h =>
   intro i hk
   have : i = 0 := by simp at hk; omega
   subst this
   exact ⟨lo, hi, [], p, [], [], L, [], by simp, by simp, h, .nil, .nil⟩
 | @cons lo hi s k p1 p2 L1 L2 ks kids h t ih =>
   intro i hk
   cases i with
   | zero => exact ⟨lo, some s, [], p1, p2, [], L1, L2, rfl, rfl, h, .nil, .more t⟩
   | succ i =>
     obtain ⟨lo', hi', a, q, b, A, M, B, rfl, rfl, h1, h2, h3⟩ := ih i (by simpa using hk)
     exact ⟨lo', hi', p1 ++ a, q, b, L1 ++ A, M, B, by rw [List.append_assoc], by rw [List.append_assoc], h1, Pre.cons h h2, h3⟩
theorem Pre.inv {kids p : List Nat} {L : List KV} (h : Pre W lo m [] kids p L) : m = lo ∧ kids = [] ∧ p = [] ∧ L = [] := by
 generalize e : ([] : List Key) = K at h
 cases h with
 | nil => exact ⟨rfl, rfl, rfl, rfl⟩
 | more h => simp at e
theorem Post.head {ks : List Key} {kids p : List Nat} {L : List KV} (h : Post W hi m ks kids p L) (hk : 0 < kids.length) : ∃ (s : Key) (hi' : Option Key) (q p2 : List Nat) (M L2 : List KV) (hs : 0 < ks.length),
   m = some s ∧ s = ks[0] ∧ p = q ++ p2 ∧ L = M ++ L2 ∧ W (some s) hi' (kids[0]) q M ∧ Post W hi hi' (ks.drop 1) (kids.drop 1) p2 L2 := by
 cases h with
 | nil => simp at hk
 | @more s ks kids p L h =>
   obtain ⟨lo', hi', p1, q, p2, L1, M, L2, rfl, rfl, h1, h2, h3⟩ := h.at 0 hk
   rw [List.take_zero] at h2
   obtain ⟨rfl, _, rfl, rfl⟩ := h2.inv
   exact ⟨s, hi', q, p2, M, L2, by simp, rfl, rfl, rfl, rfl, h1, by simpa using h3⟩
end Go.Proofs.YtplieiecebljmaaGreat
namespace Go.Proofs.YtplieiecebljmaaGreat
variable {W V : Below} {lo hi m : Option Key}
def kidIx (ks : List Key) (k : Key) : Nat := ks.findIdx fun s => decide (ltK k s)
theorem kidIx_le (ks : List Key) (k : Key) : kidIx ks k ≤ ks.length := List.findIdx_le_length
theorem kidIx_lt {ks : List Key} {k : Key} {i : Nat} (h : i < kidIx ks k) (hi : i < ks.length) : leK ks[i] k := by
 have := List.not_of_lt_findIdx h
 exact not_ltK.1 (by simpa using this)
theorem kidIx_at {ks : List Key} {k : Key} (h : kidIx ks k < ks.length) : ltK k ks[kidIx ks k] := by
 have := List.findIdx_getElem (p := fun s => decide (ltK k s)) (xs := ks) (w := h)
 exact of_decide_eq_true this
theorem Pre.loIs {i : Nat} {ks : List Key} {kids p : List Nat} {L : List KV} (h : Pre W lo m (ks.take i) kids p L) {k : Key} (hl : ∀ (j : Nat) (hj : j < ks.length), j < i → leK ks[j] k) (hk : ∀ a, lo = some a → leK a k) : ∀ a, m = some a → leK a k := by
 generalize e : ks.take i = K at h
 cases h with
 | nil => exact hk
 | @more s ks0 kids p L h =>
   intro a ha
   cases ha
   have hm : s ∈ ks.take i := by rw [e]; simp
   obtain ⟨j, hj, rfl⟩ := List.mem_take_iff_getElem.1 hm
   exact hl j (by omega) (by omega)
theorem Post.hiIs {i : Nat} {ks : List Key} {kids p : List Nat} {L : List KV} (h : Post W hi m (ks.drop i) kids p L) {k : Key} (hl : ∀ (h : i < ks.length), ltK k ks[i]) (hk : ∀ a, hi = some a → ltK k a) : ∀ a, m = some a → ltK k a := by
 generalize e : ks.drop i = K at h
 cases h with
 | nil => exact hk
 | @more s ks0 kids p L h =>
   intro a ha
   cases ha
   have hlt : i < ks.length := by
     have := congrArg List.length e
     simp at this; omega
   have : ks[i] = s := by
     have := List.drop_eq_getElem_cons hlt
     rw [e] at this
     exact (List.cons.inj this).1.symm
   rw [← this]; exact hl hlt
theorem Pre.below {ks : List Key} {kids p : List Nat} {L : List KV} (h : Pre W lo m ks kids p L) (hW : ∀ lo hi k p L, W lo hi k p L → Rising L ∧ ∀ q ∈ L, inB lo hi q.1) (hk : ks.Pairwise ltK) (hb : ∀ s ∈ ks, inB lo hi s)
   {k : Key} (hm : ∀ a, m = some a → leK a k) : ∀ q ∈ L, ltK q.1 k := by
 cases h with
 | nil => intro q hq; cases hq
 | @more s ks0 kids p L h =>
   have hk' := List.pairwise_append.1 hk
   have := h.rise hW hk'.1 fun x hx => ⟨(hb x (by simp [hx])).1, fun b hb => by cases hb; exact hk'.2.2 x hx s (by simp)⟩
   exact fun q hq => ltK_of_lt_of_le ((this.2 q hq).2 s rfl) (hm s rfl)
theorem Post.above {ks : List Key} {kids p : List Nat} {L : List KV} (h : Post W hi m ks kids p L) (hW : ∀ lo hi k p L, W lo hi k p L → Rising L ∧ ∀ q ∈ L, inB lo hi q.1) (hk : ks.Pairwise ltK) (hb : ∀ s ∈ ks, inB lo hi s)
   {k : Key} (hm : ∀ a, m = some a → ltK k a) : ∀ q ∈ L, ltK k q.1 := by
 cases h with
 | nil => intro q hq; cases hq
 | @more s ks0 kids p L h =>
   have hk' := List.pairwise_cons.1 hk
   have := h.rise hW hk'.2 fun x hx => ⟨fun a ha => by cases ha; exact leK_of_lt (hk'.1 x hx), (hb x (by simp [hx])).2⟩
   exact fun q hq => ltK_of_lt_of_le (hm s rfl) ((this.2 q hq).1 s rfl)
def Loc (k : Key) (u : List KV → List KV) : Prop := ∀ L1 M L2 : List KV, (∀ p ∈ L1, ltK p.1 k) → (∀ p ∈ L2, ltK k p.1) → u (L1 ++ (M ++ L2)) = L1 ++ (u M ++ L2)
theorem loc_putL (k v : Key) : Loc k fun L => putL L k v := fun L1 M L2 h1 h2 => by
 show putL _ _ _ = _
 rw [putL_app_right h1, putL_app_left h2]
theorem loc_delL (k : Key) : Loc k fun L => delL L k := fun L1 M L2 h1 h2 => by
 show delL _ _ = _
 rw [delL_app, delL_app, delL_none fun p hp => ltK_ne (h1 p hp), delL_none fun p hp => (ltK_ne (h2 p hp)).symm]
end Go.Proofs.YtplieiecebljmaaGreat
namespace Go.Proofs.YtplieiecebljmaaGreat
variable {W V : Below} {lo hi m : Option Key} {P Q : Nat → Option Nd}
def WfK (P : Nat → Option Nd) (h : Nat) : Below := fun lo hi k p L => Wf P h lo hi k p L ∧ ∃ m, P k = some m ∧ 2 ≤ m.keys.length
theorem WfK.agree {h no : Nat} {p : List Nat} {L : List KV} (hw : WfK P h lo hi no p L) (hq : ∀ x ∈ p, P x = Q x) : WfK Q h lo hi no p L := by
 obtain ⟨h1, m, h2, h3⟩ := hw
 have := h1.agree hq
 exact ⟨this.1, m, by rw [← hq no this.2]; exact h2, h3⟩
theorem ne_of_len {α : Type} {l : List α} (h : 1 ≤ l.length) : l ≠ [] := fun e => by subst e; simp at h
theorem WfK.in {h no : Nat} {p : List Nat} {L : List KV} (hw : WfK P h lo hi no p L) : L ≠ [] ∧ Rising L ∧ ∀ q ∈ L, inB lo hi q.1 := ⟨ne_of_len hw.1.pages.2.1, hw.1.rise⟩
theorem Seg.sorted {ks : List Key} {kids p : List Nat} {L : List KV} (h : Seg W lo hi ks kids p L) (hW : ∀ lo hi k p L, W lo hi k p L → L ≠ [] ∧ Rising L ∧ ∀ q ∈ L, inB lo hi q.1) :
   L ≠ [] ∧ (∀ q ∈ L, inB lo hi q.1) ∧ ks.Pairwise ltK ∧ ∀ s ∈ ks, (∀ a, lo = some a → ltK a s) ∧ ∀ b, hi = some b → ltK s b := by
 induction h with
 | one h => exact ⟨(hW _ _ _ _ _ h).1, (hW _ _ _ _ _ h).2.2, .nil, by simp⟩
 | @cons lo hi s k p1 p2 L1 L2 ks kids h t ih =>
   obtain ⟨n1, _, b1⟩ := hW _ _ _ _ _ h
   obtain ⟨n2, b2, r2, w2⟩ := ih
   obtain ⟨x, hx⟩ := List.exists_mem_of_ne_nil _ n1
   obtain ⟨y, hy⟩ := List.exists_mem_of_ne_nil _ n2
   have hs1 : ∀ a, lo = some a → ltK a s := fun a ha => ltK_of_le_of_lt ((b1 x hx).1 a ha) ((b1 x hx).2 s rfl)
   have hs2 : ∀ b, hi = some b → ltK s b := fun b hb => ltK_of_le_of_lt ((b2 y hy).1 s rfl) ((b2 y hy).2 b hb)
   refine ⟨by simp [n1], fun q hq => ?_, List.pairwise_cons.2 ⟨fun z hz => (w2 z hz).1 s rfl, r2⟩, fun z hz => ?_⟩
   · rcases List.mem_append.1 hq with hq | hq
     · exact ⟨(b1 q hq).1, fun b hb => ltK_trans ((b1 q hq).2 s rfl) (hs2 b hb)⟩
     · exact ⟨fun a ha => leK_of_lt (ltK_of_lt_of_le (hs1 a ha) ((b2 q hq).1 s rfl)), (b2 q hq).2⟩
   · rcases List.mem_cons.1 hz with rfl | hz
     · exact ⟨hs1, hs2⟩
     · exact ⟨fun a ha => ltK_trans (hs1 a ha) ((w2 z hz).1 s rfl), (w2 z hz).2⟩
def VN (P : Nat → Option Nd) : Nat → Nd → Option Key → Option Key → List Nat → List KV → Prop
 | 0, _, _, _, _, _ => False
 | 1, n, lo, hi, p, L => LeafOk n ∧ n.within lo hi ∧ p = [] ∧ L = n.pairs
 | h + 2, n, lo, hi, p, L => n.leaf = false ∧ n.vals = [] ∧ (∀ k ∈ n.keys, keyOk k) ∧ (∀ k ∈ n.kids, k < 1600) ∧ Seg (WfK P (h + 1)) lo hi n.keys n.kids p L
theorem VN.agree : ∀ {h : Nat} {n : Nd} {p : List Nat} {L : List KV}, VN P h n lo hi p L → (∀ x ∈ p, P x = Q x) → VN Q h n lo hi p L
 | 0, _, _, _, h, _ => h.elim
 | 1, _, _, _, h, _ => h
 | _ + 2, _, _, _, ⟨h1, h2, h3, h4, h5⟩, hq => ⟨h1, h2, h3, h4, h5.monoP fun _ _ _ _ _ hs hw => hw.agree fun x hx => hq x (hs x hx)⟩
theorem VN.lay : ∀ {h : Nat} {n : Nd} {x : Nat} {p : List Nat} {L : List KV}, VN P h n lo hi p L → n.keys ≠ [] → Q x = some n → (∀ y ∈ p, P y = Q y) → Wf Q h lo hi x (x :: p) L
 | 0, _, _, _, _, h, _, _, _ => h.elim
 | 1, n, x, p, L, ⟨h1, h2, h3, h4⟩, hk, hx, _ => by
   subst h3
   exact ⟨n, hx, h1, h2, hk, rfl, h4⟩
 | h + 2, n, x, p, L, hv, hk, hx, hq => by
   obtain ⟨h1, h2, h3, h4, h5⟩ := hv.agree hq
   have hs := h5.sorted fun _ _ _ _ _ hw => hw.in
   exact ⟨n, p, hx, ⟨⟨h3, hs.2.2.1⟩, h1, hk, h5.len, h2, h4⟩, fun s hs2 => ⟨fun a ha => leK_of_lt ((hs.2.2.2 s hs2).1 a ha), (hs.2.2.2 s hs2).2⟩, rfl, h5⟩
def Nd.left (n : Nd) (i : Nat) : Nd := if n.leaf then ⟨true, n.keys.take i, n.vals.take i, []⟩ else ⟨false, n.keys.take i, [], n.kids.take (i + 1)⟩
def Nd.right (n : Nd) (i : Nat) : Nd := if n.leaf then ⟨true, n.keys.drop i, n.vals.drop i, []⟩ else ⟨false, n.keys.drop (i + 1), [], n.kids.drop (i + 1)⟩
theorem VN.leaf {h : Nat} {n : Nd} {p : List Nat} {L : List KV} (hv : VN P h n lo hi p L) : n.leaf = decide (h = 1) := by
 match h, hv with
 | 0, hv => exact hv.elim
 | 1, hv => rw [hv.1.leaf]; rfl
 | h + 2, hv => rw [hv.1]; simp
theorem VN.halves {h : Nat} {n : Nd} {p : List Nat} {L : List KV} (hv : VN P h n lo hi p L) {i : Nat} (h1 : 1 ≤ i) (hi2 : i < n.keys.length) :
   ∃ (p1 p2 : List Nat) (L1 L2 : List KV), p = p1 ++ p2 ∧ L = L1 ++ L2 ∧ VN P h (n.left i) lo (some n.keys[i]) p1 L1 ∧ VN P h (n.right i) (some n.keys[i]) hi p2 L2 := by
 match h, hv with
 | 0, hv => exact hv.elim
 | 1, ⟨a, b, c, d⟩ =>
   subst c d
   have hr := a.rise
   have hsp : n.keys = n.keys.take i ++ n.keys.drop i := (List.take_append_drop _ _).symm
   have hr2 := hr
   rw [hsp] at hr2
   obtain ⟨r1, r2, r3⟩ := List.pairwise_append.1 hr2
   have hd : n.keys.drop i = n.keys[i] :: n.keys.drop (i + 1) := List.drop_eq_getElem_cons hi2
   have hf : n.left i = ⟨true, n.keys.take i, n.vals.take i, []⟩ := by unfold Nd.left; rw [a.leaf]; rfl
   have hg : n.right i = ⟨true, n.keys.drop i, n.vals.drop i, []⟩ := by unfold Nd.right; rw [a.leaf]; rfl
   rw [hf, hg]
   refine ⟨[], [], n.pairs.take i, n.pairs.drop i, rfl, (List.take_append_drop _ _).symm, ⟨⟨⟨fun k hk => a.ok k (List.mem_of_mem_take hk), r1⟩, rfl, by simp [a.len], rfl, fun v hv => a.vals v (List.mem_of_mem_take hv)⟩, fun k hk => ⟨(b k (List.mem_of_mem_take hk)).1, fun s hs => ?_⟩, rfl, ?_⟩,
     ⟨⟨⟨fun k hk => a.ok k (List.mem_of_mem_drop hk), r2⟩, rfl, by simp [a.len], rfl, fun v hv => a.vals v (List.mem_of_mem_drop hv)⟩, fun k hk => ⟨fun s hs => ?_, (b k (List.mem_of_mem_drop hk)).2⟩, rfl, ?_⟩⟩
   · cases hs
     exact r3 k hk _ (by rw [hd]; exact List.mem_cons_self)
   · exact List.take_zipWith
   · cases hs
     have hk : k ∈ n.keys.drop i := hk
     rw [hd] at hk r2
     rcases List.mem_cons.1 hk with rfl | hk
     · exact leK_refl _
     · exact leK_of_lt ((List.pairwise_cons.1 r2).1 k hk)
   · exact List.drop_zipWith
 | h + 2, ⟨a, b, c, d, e⟩ =>
   have hf : n.left i = ⟨false, n.keys.take i, [], n.kids.take (i + 1)⟩ := by unfold Nd.left; rw [a]; rfl
   have hg : n.right i = ⟨false, n.keys.drop (i + 1), [], n.kids.drop (i + 1)⟩ := by unfold Nd.right; rw [a]; rfl
   have hsp : n.keys = n.keys.take i ++ n.keys[i] :: n.keys.drop (i + 1) := by rw [← List.drop_eq_getElem_cons hi2, List.take_append_drop]
   rw [hsp] at e
   obtain ⟨k1, k2, p1, p2, L1, L2, e1, rfl, rfl, s1, s2⟩ := e.cut
   have hl := s1.len
   rw [List.length_take, Nat.min_eq_left (by omega)] at hl
   have ek1 : n.kids.take (i + 1) = k1 := by rw [e1, ← hl, List.take_left]
   have ek2 : n.kids.drop (i + 1) = k2 := by rw [e1, ← hl, List.drop_left]
   rw [hf, hg, ek1, ek2]
   exact ⟨p1, p2, L1, L2, rfl, rfl, ⟨rfl, rfl, fun k hk => c k (List.mem_of_mem_take hk), fun k hk => d k (by rw [e1]; simp [hk]), s1⟩, ⟨rfl, rfl, fun k hk => c k (List.mem_of_mem_drop hk), fun k hk => d k (by rw [e1]; simp [hk]), s2⟩⟩
end Go.Proofs.YtplieiecebljmaaGreat
namespace Go.Proofs.YtplieiecebljmaaGreat
variable {lo hi : Option Key} {P Q : Nat → Option Nd}
def mergeN (a : Nd) (s : Key) (b : Nd) : Nd := if a.leaf then ⟨true, a.keys ++ b.keys, a.vals ++ b.vals, []⟩ else ⟨false, a.keys ++ s :: b.keys, [], a.kids ++ b.kids⟩
theorem zip_app {a b c d : List Key} (h : a.length = c.length) : (a ++ b).zip (c ++ d) = a.zip c ++ b.zip d := List.zip_append h
theorem VN.merge {h : Nat} {a b : Nd} {s : Key} {pa pb : List Nat} {La Lb : List KV} (ha : VN P h a lo (some s) pa La) (hb : VN P h b (some s) hi pb Lb) (hs : keyOk s) (hls : ∀ k, lo = some k → leK k s) (hsh : ∀ k, hi = some k → leK s k) :
   VN P h (mergeN a s b) lo hi (pa ++ pb) (La ++ Lb) := by
 match h, ha, hb with
 | 0, ha, _ => exact ha.elim
 | 1, ⟨a1, a2, a3, a4⟩, ⟨b1, b2, b3, b4⟩ =>
   subst a3 a4 b3 b4
   have e : mergeN a s b = ⟨true, a.keys ++ b.keys, a.vals ++ b.vals, []⟩ := by unfold mergeN; rw [a1.leaf]; rfl
   rw [e]
   refine ⟨⟨⟨fun k hk => ?_, List.pairwise_append.2 ⟨a1.rise, b1.rise, fun x hx y hy => ltK_of_lt_of_le ((a2 x hx).2 s rfl) ((b2 y hy).1 s rfl)⟩⟩, rfl, by simp [a1.len, b1.len], rfl, fun v hv => ?_⟩, fun k hk => ?_, rfl, ?_⟩
   · rcases List.mem_append.1 hk with hk | hk
     · exact a1.ok k hk
     · exact b1.ok k hk
   · rcases List.mem_append.1 hv with hv | hv
     · exact a1.vals v hv
     · exact b1.vals v hv
   · rcases List.mem_append.1 hk with hk | hk
     · exact ⟨(a2 k hk).1, fun c hc => ltK_of_lt_of_le ((a2 k hk).2 s rfl) (hsh c hc)⟩
     · exact ⟨fun c hc => leK_trans (hls c hc) ((b2 k hk).1 s rfl), (b2 k hk).2⟩
   · exact (zip_app a1.len.symm).symm
 | h + 2, ⟨a1, a2, a3, a4, a5⟩, ⟨b1, b2, b3, b4, b5⟩ =>
   have e : mergeN a s b = ⟨false, a.keys ++ s :: b.keys, [], a.kids ++ b.kids⟩ := by unfold mergeN; rw [a1]; rfl
   rw [e]
   refine ⟨rfl, rfl, fun k hk => ?_, fun k hk => ?_, a5.app b5⟩
   · rcases List.mem_append.1 hk with hk | hk
     · exact a3 k hk
     · rcases List.mem_cons.1 hk with rfl | hk
       · exact hs
       · exact b3 k hk
   · rcases List.mem_append.1 hk with hk | hk
     · exact a4 k hk
     · exact b4 k hk
theorem Wf.vn {h no : Nat} {p : List Nat} {L : List KV} (hw : Wf P h lo hi no p L) : ∃ n p', P no = some n ∧ p = no :: p' ∧ n.keys ≠ [] ∧ VN P h n lo hi p' L := by
 match h, hw with
 | 0, hw => exact hw.elim
 | 1, ⟨n, h1, h2, h3, h4, h5, h6⟩ => exact ⟨n, [], h1, h5, h4, h2, h3, rfl, h6⟩
 | h + 2, ⟨n, p', h1, h2, h3, h4, h5⟩ => exact ⟨n, p', h1, h4, h2.some, h2.inner, h2.vals, h2.ok, h2.kids, h5⟩
def changedN (n : Nd) (fr to : Nat) (ks : List Key) (kids : List Nat) : Nd := ⟨false, n.keys.take fr ++ ks ++ n.keys.drop (to - 1), [], n.kids.take fr ++ kids ++ n.kids.drop to⟩
end Go.Proofs.YtplieiecebljmaaGreat
namespace Go.Proofs.YtplieiecebljmaaGreat
def cellsOf (n : Nd) : List Nat := if n.leaf then List.zipWith (fun k v => 2 + k.length + v.length) n.keys n.vals else n.keys.map fun k => 3 + k.length
def nsize (n : Nd) : Nat := (if n.leaf then 1 else 3) + (cellsOf n).sum
def halfIx (c : List Nat) (most : Nat) : Nat := match (List.range most).find? fun i => decide (c.sum ≤ 2 * (c.take (i + 1)).sum) with
 | some i => i + 1
 | none => most
theorem sum_le {B : Nat} : ∀ {l : List Nat}, (∀ x ∈ l, x ≤ B) → l.sum ≤ B * l.length
 | [], _ => by simp
 | a :: l, h => by
   have h1 := h a (by simp)
   have h2 := sum_le (l := l) fun x hx => h x (by simp [hx])
   rw [List.sum_cons, List.length_cons, Nat.mul_add, Nat.mul_one]
   omega
theorem sum_split (l : List Nat) (i : Nat) : (l.take i).sum + (l.drop i).sum = l.sum := by
 rw [← List.sum_append, List.take_append_drop]
theorem sum_take_succ {l : List Nat} {i : Nat} (h : i < l.length) : (l.take (i + 1)).sum = (l.take i).sum + l[i] := by
 rw [List.take_succ_eq_append_getElem h, List.sum_append]; simp
theorem half_spec {c : List Nat} {most : Nat} (hm : 1 ≤ most) (hs : 0 < c.sum) : 1 ≤ halfIx c most ∧ halfIx c most ≤ most ∧ 2 * (c.take (halfIx c most - 1)).sum < c.sum ∧ (halfIx c most = most ∨ c.sum ≤ 2 * (c.take (halfIx c most)).sum) := by
 unfold halfIx
 cases h : (List.range most).find? fun i => decide (c.sum ≤ 2 * (c.take (i + 1)).sum) with
 | none =>
   have hn := List.find?_eq_none.1 h
   refine ⟨hm, Nat.le_refl _, ?_, .inl rfl⟩
   by_cases h1 : most = 1
   · subst h1; simpa using hs
   · have := hn (most - 2) (List.mem_range.2 (by omega))
     have e : most - 2 + 1 = most - 1 := by omega
     rw [e] at this
     simp at this
     exact this
 | some i =>
   have hi : i < most := List.mem_range.1 (List.mem_of_find?_eq_some h)
   have hp := List.find?_some h
   refine ⟨by simp, by simp; omega, ?_, .inr (by simpa using hp)⟩
   show 2 * (c.take (i + 1 - 1)).sum < c.sum
   rw [Nat.add_sub_cancel]
   cases i with
   | zero => simpa using hs
   | succ j =>
     have := (List.find?_range_eq_some.1 h).2.2 j (by omega)
     simpa using this
theorem leaf_half {c : List Nat} (hB : ∀ x ∈ c, x ≤ 50) (h1 : 232 ≤ c.sum) (h2 : c.sum ≤ 309) :
   2 ≤ halfIx c (c.length - 1) ∧ halfIx c (c.length - 1) + 2 ≤ c.length ∧ (c.take (halfIx c (c.length - 1))).sum ≤ 231 ∧ (c.drop (halfIx c (c.length - 1))).sum ≤ 231 := by
 have hl := sum_le hB
 have hh := half_spec (c := c) (most := c.length - 1) (by omega) (by omega)
 generalize halfIx c (c.length - 1) = i at hh ⊢
 obtain ⟨a1, a2, a3, a4⟩ := hh
 have hs := sum_split c i
 have ht := sum_take_succ (l := c) (i := i - 1) (by omega)
 rw [Nat.sub_add_cancel a1] at ht
 have hc := hB c[i - 1] (List.getElem_mem _)
 have hd := sum_le (l := c.drop i) fun x hx => hB x (List.mem_of_mem_drop hx)
 have hk := sum_le (l := c.take i) fun x hx => hB x (List.mem_of_mem_take hx)
 rw [List.length_drop] at hd
 rw [List.length_take, Nat.min_eq_left (by omega)] at hk
 have key : c.sum ≤ 2 * (c.take i).sum := by
   rcases a4 with h | h
   · have : c.length - i = 1 := by omega
     rw [this] at hd
     omega
   · exact h
 refine ⟨by omega, ?_, by omega, by omega⟩
 rcases Nat.lt_or_ge (c.length - i) 2 with h | h
 · have : c.length - i = 1 := by omega
   rw [this] at hd; omega
 · omega
theorem inner_half {c : List Nat} (hB : ∀ x ∈ c, x ≤ 27) (h1 : 230 ≤ c.sum) (h2 : c.sum ≤ 332) :
   2 ≤ halfIx c (c.length - 2) ∧ halfIx c (c.length - 2) + 3 ≤ c.length ∧ (c.take (halfIx c (c.length - 2))).sum ≤ 229 ∧ (c.drop (halfIx c (c.length - 2) + 1)).sum ≤ 229 := by
 have hl := sum_le hB
 have hh := half_spec (c := c) (most := c.length - 2) (by omega) (by omega)
 generalize halfIx c (c.length - 2) = i at hh ⊢
 obtain ⟨a1, a2, a3, a4⟩ := hh
 have hs := sum_split c (i + 1)
 have ht := sum_take_succ (l := c) (i := i - 1) (by omega)
 have hu := sum_take_succ (l := c) (i := i) (by omega)
 rw [Nat.sub_add_cancel a1] at ht
 have hc := hB c[i - 1] (List.getElem_mem _)
 have hc2 := hB c[i] (List.getElem_mem _)
 have hd := sum_le (l := c.drop (i + 1)) fun x hx => hB x (List.mem_of_mem_drop hx)
 have hk := sum_le (l := c.take i) fun x hx => hB x (List.mem_of_mem_take hx)
 rw [List.length_drop] at hd
 rw [List.length_take, Nat.min_eq_left (by omega)] at hk
 have key : c.sum ≤ 2 * (c.take i).sum := by
   rcases a4 with h | h
   · have : c.length - (i + 1) = 1 := by omega
     rw [this] at hd
     omega
   · exact h
 refine ⟨by omega, ?_, by omega, by omega⟩
 rcases Nat.lt_or_ge (c.length - (i + 1)) 2 with h | h
 · have : c.length - (i + 1) ≤ 1 := by omega
   have : 27 * (c.length - (i + 1)) ≤ 27 * 1 := Nat.mul_le_mul_left _ this
   omega
 · omega
end Go.Proofs.YtplieiecebljmaaGreat
namespace Go.Proofs.YtplieiecebljmaaGreat
variable {W : Below} {lo hi m : Option Key} {P Q : Nat → Option Nd}
theorem Post.inv {kids p : List Nat} {L : List KV} (h : Post W hi m [] kids p L) : m = hi ∧ kids = [] ∧ p = [] ∧ L = [] := by
 generalize e : ([] : List Key) = K at h
 cases h with
 | nil => exact ⟨rfl, rfl, rfl, rfl⟩
 | more h => simp at e
theorem Pre.last {ks : List Key} {kids p : List Nat} {L : List KV} (h : Pre W lo m ks kids p L) (hk : 0 < kids.length) : ∃ (s : Key) (lo' : Option Key) (p1 r : List Nat) (L1 N : List KV) (hs : 0 < ks.length),
   m = some s ∧ s = ks[ks.length - 1] ∧ p = p1 ++ r ∧ L = L1 ++ N ∧ W lo' (some s) (kids[kids.length - 1]) r N ∧ Pre W lo lo' (ks.take (ks.length - 1)) (kids.take (kids.length - 1)) p1 L1 ∧ kids.length = ks.length := by
 cases h with
 | nil => simp at hk
 | @more s ks kids p L h =>
   have hl := h.len
   obtain ⟨lo', hi', p1, q, p2, L1, M, L2, rfl, rfl, h1, h2, h3⟩ := h.at (kids.length - 1) (by omega)
   rw [List.drop_of_length_le (by omega)] at h3
   obtain ⟨rfl, _, rfl, rfl⟩ := h3.inv
   refine ⟨s, lo', p1, q, L1, M, by simp, rfl, by simp, by simp, by simp, h1, ?_, by simp; omega⟩
   have e : (ks ++ [s]).take ((ks ++ [s]).length - 1) = ks.take (kids.length - 1) := by
     rw [hl]; simp
   rw [e]; exact h2
theorem VN.at {h : Nat} {n : Nd} {p : List Nat} {L : List KV} (hv : VN P (h + 2) n lo hi p L) {k : Key} (hk : inB lo hi k) : ∃ (lo' hi' : Option Key) (p1 q p2 : List Nat) (L1 M L2 : List KV) (hb : kidIx n.keys k < n.kids.length),
   p = p1 ++ (q ++ p2) ∧ L = L1 ++ (M ++ L2) ∧ WfK P (h + 1) lo' hi' n.kids[kidIx n.keys k] q M ∧ inB lo' hi' k ∧ (∀ u, Loc k u → u L = L1 ++ (u M ++ L2)) ∧ n.kids.length = n.keys.length + 1 ∧
   Pre (WfK P (h + 1)) lo lo' (n.keys.take (kidIx n.keys k)) (n.kids.take (kidIx n.keys k)) p1 L1 ∧ Post (WfK P (h + 1)) hi hi' (n.keys.drop (kidIx n.keys k)) (n.kids.drop (kidIx n.keys k + 1)) p2 L2 := by
 obtain ⟨a, b, c, d, e⟩ := hv
 have hl := e.len
 have hle := kidIx_le n.keys k
 have hs := e.sorted fun _ _ _ _ _ hw => hw.in
 have hin : ∀ s ∈ n.keys, inB lo hi s := fun s h => ⟨fun a ha => leK_of_lt ((hs.2.2.2 s h).1 a ha), (hs.2.2.2 s h).2⟩
 obtain ⟨lo', hi', p1, q, p2, L1, M, L2, rfl, rfl, h1, h2, h3⟩ := e.at (kidIx n.keys k) (by omega)
 have hlo := h2.loIs (k := k) (fun j hj h => kidIx_lt h hj) hk.1
 have hhi := h3.hiIs (k := k) (fun h => kidIx_at h) hk.2
 have hrt : (n.keys.take (kidIx n.keys k)).Pairwise ltK := hs.2.2.1.sublist (List.take_sublist _ _)
 have hrd : (n.keys.drop (kidIx n.keys k)).Pairwise ltK := hs.2.2.1.sublist (List.drop_sublist _ _)
 exact ⟨lo', hi', p1, q, p2, L1, M, L2, by omega, rfl, rfl, h1, ⟨hlo, hhi⟩, fun u hu => hu _ _ _ (h2.below (hi := hi) (fun _ _ _ _ _ hw => hw.in.2) hrt (fun s h => hin s (List.mem_of_mem_take h)) hlo) (h3.above (lo := lo) (fun _ _ _ _ _ hw => hw.in.2) hrd (fun s h => hin s (List.mem_of_mem_drop h)) hhi),
   hl, h2, h3⟩
theorem VN.build {h : Nat} {lo' hi' : Option Key} {ka kb ks : List Key} {da db kids p1 p2 q : List Nat} {L1 M L2 : List KV} (h1 : Pre (WfK P (h + 1)) lo lo' ka da p1 L1) (h2 : Post (WfK P (h + 1)) hi hi' kb db p2 L2)
   (hs : Seg (WfK Q (h + 1)) lo' hi' ks kids q M) (hq : ∀ x ∈ p1 ++ p2, P x = Q x) (hk : ∀ s ∈ ka ++ ks ++ kb, keyOk s) (hd : ∀ x ∈ da ++ kids ++ db, x < 1600) :
   VN Q (h + 2) ⟨false, ka ++ ks ++ kb, [], da ++ kids ++ db⟩ lo hi (p1 ++ (q ++ p2)) (L1 ++ (M ++ L2)) := by
 have g1 : Pre (WfK Q (h + 1)) lo lo' ka da p1 L1 := h1.monoP fun _ _ _ _ _ hs hw => hw.agree fun x hx => hq x (List.mem_append_left _ (hs x hx))
 have g2 : Post (WfK Q (h + 1)) hi hi' kb db p2 L2 := h2.monoP fun _ _ _ _ _ hs hw => hw.agree fun x hx => hq x (List.mem_append_right _ (hs x hx))
 refine ⟨rfl, rfl, hk, hd, ?_⟩
 show Seg _ lo hi (ka ++ ks ++ kb) (da ++ kids ++ db) _ _
 rw [List.append_assoc, List.append_assoc]
 exact g1.seg (hs.post g2)
end Go.Proofs.YtplieiecebljmaaGreat
namespace Go.Proofs.YtplieiecebljmaaGreat
variable {lo hi : Option Key} {P Q : Nat → Option Nd}
theorem VN.one {h x : Nat} {n : Nd} {p : List Nat} {L : List KV} (hv : VN P h n lo hi p L) (h2 : 2 ≤ n.keys.length) (hx : Q x = some n) (hq : ∀ y ∈ p, P y = Q y) : Seg (WfK Q h) lo hi [] [x] (x :: p) L :=
 .one ⟨hv.lay (fun e => by rw [e] at h2; simp at h2) hx hq, n, hx, h2⟩
theorem cells_leaf {n : Nd} (h : n.leaf = true) : cellsOf n = List.zipWith (fun k v => 2 + k.length + v.length) n.keys n.vals := by unfold cellsOf; rw [h]; rfl
theorem cells_inner {n : Nd} (h : n.leaf = false) : cellsOf n = n.keys.map fun k => 3 + k.length := by unfold cellsOf; rw [h]; rfl
theorem zipW_le {B : Nat} {f : Key → Key → Nat} : ∀ {ks vs : List Key}, (∀ k ∈ ks, ∀ v ∈ vs, f k v ≤ B) → ∀ x ∈ List.zipWith f ks vs, x ≤ B
 | [], vs, _, x, hx => by simp at hx
 | k :: ks, [], _, x, hx => by simp at hx
 | k :: ks, v :: vs, h, x, hx => by
   rw [List.zipWith_cons_cons] at hx
   rcases List.mem_cons.1 hx with rfl | hx
   · exact h k (by simp) v (by simp)
   · exact zipW_le (fun k hk v hv => h k (by simp [hk]) v (by simp [hv])) x hx
def cutIx (n : Nd) : Nat := halfIx (cellsOf n) (if n.leaf then n.keys.length - 1 else n.keys.length - 2)
theorem VN.two {h x y : Nat} {n : Nd} {p : List Nat} {L : List KV} (hv : VN P h n lo hi p L) (h1 : 232 < nsize n) (h2 : n.leaf = true → nsize n ≤ 310) (h3 : n.leaf = false → nsize n ≤ 335) :
   1 ≤ cutIx n ∧ (if n.leaf then cutIx n ≤ n.keys.length - 1 ∧ 1 ≤ n.keys.length - 1 else cutIx n ≤ n.keys.length - 2 ∧ 1 ≤ n.keys.length - 2) ∧ nsize (n.left (cutIx n)) ≤ 232 ∧ nsize (n.right (cutIx n)) ≤ 232 ∧
     ∃ (hb : cutIx n < n.keys.length) (p1 p2 : List Nat) (L1 L2 : List KV), p = p1 ++ p2 ∧ L = L1 ++ L2 ∧ keyOk n.keys[cutIx n] ∧
       (Q x = some (n.left (cutIx n)) → Q y = some (n.right (cutIx n)) → (∀ z ∈ p, P z = Q z) → Seg (WfK Q h) lo hi [n.keys[cutIx n]] [x, y] ((x :: p1) ++ (y :: p2)) (L1 ++ L2)) := by
 have main : ∀ (i : Nat), 2 ≤ i → (h4 : i < n.keys.length) → 2 ≤ (n.left i).keys.length → 2 ≤ (n.right i).keys.length → ∃ (hb : i < n.keys.length) (p1 p2 : List Nat) (L1 L2 : List KV), p = p1 ++ p2 ∧ L = L1 ++ L2 ∧ keyOk n.keys[i] ∧
     (Q x = some (n.left i) → Q y = some (n.right i) → (∀ z ∈ p, P z = Q z) → Seg (WfK Q h) lo hi [n.keys[i]] [x, y] ((x :: p1) ++ (y :: p2)) (L1 ++ L2)) := by
   intro i hi2 hi3 hl hr
   obtain ⟨p1, p2, L1, L2, rfl, rfl, v1, v2⟩ := hv.halves (by omega : 1 ≤ i) hi3
   have hko : keyOk n.keys[i] := by
     match h, hv with
     | 0, hv => exact hv.elim
     | 1, hv => exact hv.1.ok _ (List.getElem_mem _)
     | h + 2, hv => exact hv.2.2.1 _ (List.getElem_mem _)
   refine ⟨hi3, p1, p2, L1, L2, rfl, rfl, hko, fun hx hy hq => ?_⟩
   have s1 := v1.one hl hx fun z hz => hq z (List.mem_append_left _ hz)
   have s2 := v2.one hr hy fun z hz => hq z (List.mem_append_right _ hz)
   exact s1.app s2
 match h, hv with
 | 0, hv => exact hv.elim
 | 1, hv =>
   have hlf : n.leaf = true := hv.1.leaf
   have hcl : (cellsOf n).length = n.keys.length := by rw [cells_leaf hlf, List.length_zipWith, hv.1.len, Nat.min_self]
   have hB : ∀ c ∈ cellsOf n, c ≤ 50 := by
     rw [cells_leaf hlf]
     exact zipW_le fun k hk v hv2 => by have := (hv.1.ok k hk).2; have := hv.1.vals v hv2; omega
   have hns : nsize n = 1 + (cellsOf n).sum := by unfold nsize; rw [hlf]; rfl
   have h2 := h2 hlf
   obtain ⟨a1, a2, a3, a4⟩ := leaf_half hB (by omega) (by omega)
   have ec : cutIx n = halfIx (cellsOf n) ((cellsOf n).length - 1) := by unfold cutIx; rw [hlf, hcl]; rfl
   rw [← ec] at a1 a2 a3 a4
   have hL : n.left (cutIx n) = ⟨true, n.keys.take (cutIx n), n.vals.take (cutIx n), []⟩ := by unfold Nd.left; rw [hlf]; rfl
   have hR : n.right (cutIx n) = ⟨true, n.keys.drop (cutIx n), n.vals.drop (cutIx n), []⟩ := by unfold Nd.right; rw [hlf]; rfl
   have cL : cellsOf (n.left (cutIx n)) = (cellsOf n).take (cutIx n) := by rw [hL, cells_leaf rfl, cells_leaf hlf]; exact List.take_zipWith.symm
   have cR : cellsOf (n.right (cutIx n)) = (cellsOf n).drop (cutIx n) := by rw [hR, cells_leaf rfl, cells_leaf hlf]; exact List.drop_zipWith.symm
   refine ⟨by omega, by rw [hlf]; exact ⟨by omega, by omega⟩, ?_, ?_, main _ a1 (by omega) (by rw [hL]; show 2 ≤ (n.keys.take _).length; rw [List.length_take]; omega) (by rw [hR]; show 2 ≤ (n.keys.drop _).length; rw [List.length_drop]; omega)⟩
   · unfold nsize; rw [cL, hL]; show 1 + _ ≤ _; omega
   · unfold nsize; rw [cR, hR]; show 1 + _ ≤ _; omega
 | h + 2, hv =>
   have hlf : n.leaf = false := hv.1
   have hcl : (cellsOf n).length = n.keys.length := by rw [cells_inner hlf, List.length_map]
   have hB : ∀ c ∈ cellsOf n, c ≤ 27 := by
     rw [cells_inner hlf]
     intro c hc
     obtain ⟨k, hk, rfl⟩ := List.mem_map.1 hc
     have := (hv.2.2.1 k hk).2; omega
   have hns : nsize n = 3 + (cellsOf n).sum := by unfold nsize; rw [hlf]; rfl
   have h3 := h3 hlf
   obtain ⟨a1, a2, a3, a4⟩ := inner_half hB (by omega) (by omega)
   have ec : cutIx n = halfIx (cellsOf n) ((cellsOf n).length - 2) := by unfold cutIx; rw [hlf, hcl]; rfl
   rw [← ec] at a1 a2 a3 a4
   have hL : n.left (cutIx n) = ⟨false, n.keys.take (cutIx n), [], n.kids.take (cutIx n + 1)⟩ := by unfold Nd.left; rw [hlf]; rfl
   have hR : n.right (cutIx n) = ⟨false, n.keys.drop (cutIx n + 1), [], n.kids.drop (cutIx n + 1)⟩ := by unfold Nd.right; rw [hlf]; rfl
   have cL : cellsOf (n.left (cutIx n)) = (cellsOf n).take (cutIx n) := by rw [hL, cells_inner rfl, cells_inner hlf]; exact List.map_take
   have cR : cellsOf (n.right (cutIx n)) = (cellsOf n).drop (cutIx n + 1) := by rw [hR, cells_inner rfl, cells_inner hlf]; exact List.map_drop
   refine ⟨by omega, by rw [hlf]; exact ⟨by omega, by omega⟩, ?_, ?_, main _ a1 (by omega) (by rw [hL]; show 2 ≤ (n.keys.take _).length; rw [List.length_take]; omega) (by rw [hR]; show 2 ≤ (n.keys.drop _).length; rw [List.length_drop]; omega)⟩
   · unfold nsize; rw [cL, hL]; show 3 + _ ≤ _; omega
   · unfold nsize; rw [cR, hR]; show 3 + _ ≤ _; omega
end Go.Proofs.YtplieiecebljmaaGreat
namespace Go.Proofs.YtplieiecebljmaaGreat
variable {lo hi : Option Key} {P Q : Nat → Option Nd}
theorem VN.cells {h : Nat} {n : Nd} {p : List Nat} {L : List KV} (hv : VN P h n lo hi p L) : (cellsOf n).length = n.keys.length ∧ ∀ c ∈ cellsOf n, c ≤ if n.leaf then 50 else 27 := by
 match h, hv with
 | 0, hv => exact hv.elim
 | 1, hv =>
   have hlf : n.leaf = true := hv.1.leaf
   rw [cells_leaf hlf, hlf]
   exact ⟨by rw [List.length_zipWith, hv.1.len, Nat.min_self], zipW_le fun k hk v hv2 => by have := (hv.1.ok k hk).2; have := hv.1.vals v hv2; simp only [if_true]; omega⟩
 | h + 2, hv =>
   have hlf : n.leaf = false := hv.1
   rw [cells_inner hlf, hlf]
   refine ⟨by rw [List.length_map], fun c hc => ?_⟩
   obtain ⟨k, hk, rfl⟩ := List.mem_map.1 hc
   have := (hv.2.2.1 k hk).2
   show 3 + k.length ≤ 27
   omega
theorem VN.keys2 {h : Nat} {n : Nd} {p : List Nat} {L : List KV} (hv : VN P h n lo hi p L) (hs : 80 ≤ nsize n) : 2 ≤ n.keys.length := by
 obtain ⟨h1, h2⟩ := hv.cells
 have := sum_le h2
 rw [h1] at this
 unfold nsize at hs
 cases hl : n.leaf with
 | true => rw [hl] at hs this; simp only [if_true] at hs this; omega
 | false => rw [hl] at hs this; simp only [Bool.false_eq_true, if_false] at hs this; omega
theorem mergeN_size {a b : Nd} {s : Key} (h : a.leaf = b.leaf) (ha : a.leaf = true → a.vals.length = a.keys.length) : nsize (mergeN a s b) = if a.leaf then nsize a + nsize b - 1 else nsize a + nsize b + s.length := by
 cases hl : a.leaf with
 | true =>
   have e : mergeN a s b = ⟨true, a.keys ++ b.keys, a.vals ++ b.vals, []⟩ := by unfold mergeN; rw [hl]; rfl
   have hb : b.leaf = true := by rw [← h, hl]
   unfold nsize
   rw [e, cells_leaf rfl, cells_leaf hl, cells_leaf hb, hl, hb]
   simp only [if_true]
   rw [List.zipWith_append (ha hl).symm, List.sum_append]
   omega
 | false =>
   have e : mergeN a s b = ⟨false, a.keys ++ s :: b.keys, [], a.kids ++ b.kids⟩ := by unfold mergeN; rw [hl]; rfl
   have hb : b.leaf = false := by rw [← h, hl]
   unfold nsize
   rw [e, cells_inner rfl, cells_inner hl, cells_inner hb, hl, hb]
   simp only [Bool.false_eq_true, if_false, List.map_append, List.map_cons, List.sum_append, List.sum_cons]
   omega
def ksum (ks : List Key) : Nat := (ks.map fun k => 3 + k.length).sum
theorem ksum_app (a b : List Key) : ksum (a ++ b) = ksum a + ksum b := by unfold ksum; rw [List.map_append, List.sum_append]
theorem nsize_inner {n : Nd} (h : n.leaf = false) : nsize n = 3 + ksum n.keys := by unfold nsize ksum; rw [h, cells_inner h]; rfl
theorem ksum_one (k : Key) : ksum [k] = 3 + k.length := by simp [ksum]
theorem changed_size {n : Nd} {ks : List Key} {kids : List Nat} {fr j : Nat} (h : n.leaf = false) (hks : ks.length ≤ 1) (hk : ∀ k ∈ ks, keyOk k) (hj : fr ≤ j) :
   nsize ⟨false, n.keys.take fr ++ ks ++ n.keys.drop j, [], kids⟩ ≤ nsize n + 27 := by
 rw [nsize_inner h, nsize_inner rfl]
 show 3 + ksum (n.keys.take fr ++ ks ++ n.keys.drop j) ≤ _
 rw [ksum_app, ksum_app]
 have h1 : ksum ks ≤ 27 := by
   match ks, hks with
   | [], _ => simp [ksum]
   | [k], _ => rw [ksum_one]; have := (hk k (by simp)).2; omega
 have h2 : ksum n.keys = ksum (n.keys.take fr) + ksum (n.keys.drop fr) := by rw [← ksum_app, List.take_append_drop]
 have h3 : ksum (n.keys.drop fr) = ksum ((n.keys.drop fr).take (j - fr)) + ksum (n.keys.drop j) := by
   rw [← ksum_app]
   congr 1
   have : n.keys.drop j = (n.keys.drop fr).drop (j - fr) := by rw [List.drop_drop]; congr 1; omega
   rw [this, List.take_append_drop]
 omega
end Go.Proofs.YtplieiecebljmaaGreat
namespace Go.Proofs.YtplieiecebljmaaGreat
variable {lo hi : Option Key} {P Q : Nat → Option Nd}
def FitsOk (Q : Nat → Option Nd) (n : Nd) (ks : List Key) (kids : List Nat) : Prop :=
 (nsize n ≤ 232 ∧ ∃ x, ks = [] ∧ kids = [x] ∧ Q x = some n) ∨
 (232 < nsize n ∧ ∃ (x y : Nat) (hb : cutIx n < n.keys.length), ks = [n.keys[cutIx n]] ∧ kids = [x, y] ∧ Q x = some (n.left (cutIx n)) ∧ Q y = some (n.right (cutIx n)))
theorem VN.fits {h : Nat} {n : Nd} {p : List Nat} {L : List KV} {ks : List Key} {kids : List Nat} (hv : VN P h n lo hi p L) (h2 : 2 ≤ n.keys.length) (hl : n.leaf = true → nsize n ≤ 310) (hi2 : n.leaf = false → nsize n ≤ 335)
   (hf : FitsOk Q n ks kids) (hq : ∀ x ∈ p, P x = Q x) : ∃ p', Seg (WfK Q h) lo hi ks kids p' L ∧ p'.Perm (kids ++ p) ∧ (∀ s ∈ ks, keyOk s) ∧ ks.length ≤ 1 := by
 rcases hf with ⟨_, x, rfl, rfl, hx⟩ | ⟨hs, x, y, hb, rfl, rfl, hx, hy⟩
 · exact ⟨x :: p, hv.one h2 hx hq, List.Perm.refl _, by simp, by simp⟩
 · obtain ⟨_, _, _, _, _, p1, p2, L1, L2, rfl, rfl, hko, hseg⟩ := hv.two (Q := Q) (x := x) (y := y) hs hl hi2
   refine ⟨_, hseg hx hy hq, ?_, by simpa using hko, by simp⟩
   show ((x :: p1) ++ (y :: p2)).Perm ([x, y] ++ (p1 ++ p2))
   simp only [List.cons_append, List.nil_append]
   exact (List.perm_middle).cons x
theorem up_one {h : Nat} {n0 n' : Nd} {lo' hi' : Option Key} {i : Nat} {p1 p2 q' : List Nat} {L1 M' L2 : List KV} {ks : List Key} {kids : List Nat} (h0 : n0.leaf = false) (hk0 : ∀ k ∈ n0.keys, keyOk k) (hd0 : ∀ x ∈ n0.kids, x < 1600)
   (hp : Pre (WfK P (h + 1)) lo lo' (n0.keys.take i) (n0.kids.take i) p1 L1) (ho : Post (WfK P (h + 1)) hi hi' (n0.keys.drop i) (n0.kids.drop (i + 1)) p2 L2) (hv : VN P (h + 1) n' lo' hi' q' M') (h1 : 80 ≤ nsize n') (h2 : nsize n' ≤ 282)
   (hf : FitsOk Q n' ks kids) (hq : ∀ x ∈ p1 ++ (q' ++ p2), P x = Q x) (hkd : ∀ x ∈ kids, x < 1600) :
   ∃ p', VN Q (h + 2) (changedN n0 i (i + 1) ks kids) lo hi p' (L1 ++ (M' ++ L2)) ∧ p'.Perm (kids ++ (p1 ++ (q' ++ p2))) ∧ nsize (changedN n0 i (i + 1) ks kids) ≤ nsize n0 + 27 ∧ n0.keys.length ≤ (changedN n0 i (i + 1) ks kids).keys.length := by
 obtain ⟨q2, hs, hperm, hko, hl1⟩ := hv.fits (hv.keys2 h1) (fun _ => by omega) (fun _ => by omega) hf fun x hx => hq x (List.mem_append_right _ (List.mem_append_left _ hx))
 have hb := VN.build hp ho hs (fun x hx => by
     rcases List.mem_append.1 hx with hx | hx
     · exact hq x (List.mem_append_left _ hx)
     · exact hq x (List.mem_append_right _ (List.mem_append_right _ hx)))
   (fun s hs => by
     rcases List.mem_append.1 hs with hs | hs
     · rcases List.mem_append.1 hs with hs | hs
       · exact hk0 s (List.mem_of_mem_take hs)
       · exact hko s hs
     · exact hk0 s (List.mem_of_mem_drop hs))
   (fun x hx => by
     rcases List.mem_append.1 hx with hx | hx
     · rcases List.mem_append.1 hx with hx | hx
       · exact hd0 x (List.mem_of_mem_take hx)
       · exact hkd x hx
     · exact hd0 x (List.mem_of_mem_drop hx))
 have e : changedN n0 i (i + 1) ks kids = ⟨false, n0.keys.take i ++ ks ++ n0.keys.drop i, [], n0.kids.take i ++ kids ++ n0.kids.drop (i + 1)⟩ := by unfold changedN; rw [Nat.add_sub_cancel]
 rw [e]
 refine ⟨_, hb, ?_, changed_size h0 hl1 hko (Nat.le_refl _), ?_⟩
 · have g1 : (q2 ++ p2).Perm (kids ++ (q' ++ p2)) := by
     rw [← List.append_assoc]; exact hperm.append_right _
   refine (List.Perm.append_left p1 g1).trans ?_
   have g2 := (List.perm_append_comm (l₁ := p1) (l₂ := kids)).append_right (q' ++ p2)
   rw [List.append_assoc, List.append_assoc] at g2
   exact g2
 · show n0.keys.length ≤ (n0.keys.take i ++ ks ++ n0.keys.drop i).length
   have := congrArg List.length (List.take_append_drop i n0.keys)
   simp only [List.length_append] at this ⊢
   omega
end Go.Proofs.YtplieiecebljmaaGreat
namespace Go.Proofs.YtplieiecebljmaaGreat
variable {lo hi : Option Key} {P Q : Nat → Option Nd}
theorem mergeN_keys {a b : Nd} {s : Key} : a.keys.length + b.keys.length ≤ (mergeN a s b).keys.length := by
 unfold mergeN
 split
 · show _ ≤ (a.keys ++ b.keys).length
   rw [List.length_append]; omega
 · show _ ≤ (a.keys ++ s :: b.keys).length
   rw [List.length_append, List.length_cons]; omega
theorem mergeN_leaf {a b : Nd} {s : Key} : (mergeN a s b).leaf = a.leaf := by
 unfold mergeN
 cases h : a.leaf <;> simp
theorem merged_size {h : Nat} {a b : Nd} {s : Key} {lo1 hi1 lo2 hi2 : Option Key} {pa pb : List Nat} {La Lb : List KV} (ha : VN P h a lo1 hi1 pa La) (hb : VN P h b lo2 hi2 pb Lb) (hs : keyOk s) (h1 : nsize a + nsize b ≤ 311) :
   ((mergeN a s b).leaf = true → nsize (mergeN a s b) ≤ 310) ∧ ((mergeN a s b).leaf = false → nsize (mergeN a s b) ≤ 335) := by
 have hl : a.leaf = b.leaf := by rw [ha.leaf, hb.leaf]
 have hv : a.leaf = true → a.vals.length = a.keys.length := fun h1 => by
   match h, ha with
   | 0, ha => exact ha.elim
   | 1, ha => exact ha.1.len
   | h + 2, ha => rw [ha.1] at h1; cases h1
 rw [mergeN_leaf, mergeN_size hl hv]
 have := hs.2
 constructor
 · intro e; rw [e]; simp only [if_true]; omega
 · intro e; rw [e]; simp only [Bool.false_eq_true, if_false]; omega
theorem up_ahead {h : Nat} {n0 n' : Nd} {lo' hi' : Option Key} {i : Nat} {p1 p2 q' : List Nat} {L1 M' L2 : List KV} {k : Key} (h0 : n0.leaf = false) (hk0 : ∀ k ∈ n0.keys, keyOk k) (hd0 : ∀ x ∈ n0.kids, x < 1600) (hlen : n0.kids.length = n0.keys.length + 1) (hP : ∀ x n, P x = some n → nsize n ≤ 232)
   (hi1 : 1 ≤ i) (hik : i < n0.kids.length) (hin : inB lo' hi' k)
   (hp : Pre (WfK P (h + 1)) lo lo' (n0.keys.take i) (n0.kids.take i) p1 L1) (ho : Post (WfK P (h + 1)) hi hi' (n0.keys.drop i) (n0.kids.drop (i + 1)) p2 L2) (hv : VN P (h + 1) n' lo' hi' q' M') (h1 : nsize n' < 80) :
   ∃ (o : Nd) (p1' : List Nat) (hb : i - 1 < n0.kids.length) (hb2 : i - 1 < n0.keys.length), P n0.kids[i - 1] = some o ∧ p1.Perm (n0.kids[i - 1] :: p1') ∧ 2 ≤ o.keys.length ∧
     ∀ (Q : Nat → Option Nd) (ks : List Key) (kids : List Nat), FitsOk Q (mergeN o n0.keys[i - 1] n') ks kids → (∀ x ∈ p1' ++ (q' ++ p2), P x = Q x) → (∀ x ∈ kids, x < 1600) →
       ∃ p', VN Q (h + 2) (changedN n0 (i - 1) (i + 1) ks kids) lo hi p' (L1 ++ (M' ++ L2)) ∧ p'.Perm (kids ++ (p1' ++ (q' ++ p2))) ∧ nsize (changedN n0 (i - 1) (i + 1) ks kids) ≤ nsize n0 + 27 ∧ n0.keys.length ≤ (changedN n0 (i - 1) (i + 1) ks kids).keys.length + 1 := by
 obtain ⟨s, lo2, p0, r, L0, N, hs, rfl, hse, rfl, rfl, ⟨hw, m, hm, hm2⟩, hpre, hll⟩ := hp.last (by rw [List.length_take]; omega)
 have hkl : (n0.keys.take i).length = i := by rw [List.length_take]; omega
 have hdl : (n0.kids.take i).length = i := by rw [List.length_take]; omega
 have hse : s = n0.keys[i - 1]'(by omega) := by
   rw [hse, List.getElem_take]; congr 1; omega
 have hke : (n0.kids.take i)[(n0.kids.take i).length - 1]'(by omega) = n0.kids[i - 1]'(by omega) := by
   rw [List.getElem_take]; congr 1; omega
 rw [hke] at hw hm
 obtain ⟨o, r', ho1, rfl, _, hvo⟩ := hw.vn
 rw [ho1] at hm
 have hm2 : 2 ≤ o.keys.length := by rw [Option.some.inj hm]; exact hm2
 clear hm
 subst hse
 have hN := (show WfK P (h + 1) lo2 (some (n0.keys[i - 1]'(by omega))) (n0.kids[i - 1]'(by omega)) (n0.kids[i - 1]'(by omega) :: r') N from ⟨hw, o, ho1, hm2⟩).in
 obtain ⟨x, hx⟩ := List.exists_mem_of_ne_nil _ hN.1
 have hsk := hk0 _ (List.getElem_mem (l := n0.keys) (n := i - 1) (by omega))
 have hmv := VN.merge hvo hv hsk (fun c hc => leK_of_lt (ltK_of_le_of_lt ((hN.2.2 x hx).1 c hc) ((hN.2.2 x hx).2 _ rfl))) (fun c hc => leK_of_lt (ltK_of_le_of_lt (hin.1 _ rfl) (hin.2 c hc)))
 have hsz := merged_size hvo hv hsk (by have := hP _ _ ho1; omega)
 have hmk := mergeN_keys (a := o) (b := n') (s := n0.keys[i - 1]'(by omega))
 refine ⟨o, p0 ++ r', by omega, by omega, ho1, List.perm_middle, hm2, fun Q ks kids hf hq hkd => ?_⟩
 obtain ⟨q2, hsg, hperm, hko, hl1⟩ := hmv.fits (by omega) hsz.1 hsz.2 hf fun x hx => hq x (by
   rcases List.mem_append.1 hx with hx | hx
   · exact List.mem_append_left _ (List.mem_append_right _ hx)
   · exact List.mem_append_right _ (List.mem_append_left _ hx))
 have ek : (n0.keys.take i).take ((n0.keys.take i).length - 1) = n0.keys.take (i - 1) := by rw [hkl, List.take_take]; congr 1; omega
 have ed : (n0.kids.take i).take ((n0.kids.take i).length - 1) = n0.kids.take (i - 1) := by rw [hdl, List.take_take]; congr 1; omega
 rw [ek, ed] at hpre
 have hb := VN.build hpre ho hsg (fun x hx => hq x (by
     rcases List.mem_append.1 hx with hx | hx
     · exact List.mem_append_left _ (List.mem_append_left _ hx)
     · exact List.mem_append_right _ (List.mem_append_right _ hx)))
   (fun s hs => by
     rcases List.mem_append.1 hs with hs | hs
     · rcases List.mem_append.1 hs with hs | hs
       · exact hk0 s (List.mem_of_mem_take hs)
       · exact hko s hs
     · exact hk0 s (List.mem_of_mem_drop hs))
   (fun x hx => by
     rcases List.mem_append.1 hx with hx | hx
     · rcases List.mem_append.1 hx with hx | hx
       · exact hd0 x (List.mem_of_mem_take hx)
       · exact hkd x hx
     · exact hd0 x (List.mem_of_mem_drop hx))
 have e : changedN n0 (i - 1) (i + 1) ks kids = ⟨false, n0.keys.take (i - 1) ++ ks ++ n0.keys.drop i, [], n0.kids.take (i - 1) ++ kids ++ n0.kids.drop (i + 1)⟩ := by unfold changedN; rw [Nat.add_sub_cancel]
 rw [e]
 refine ⟨_, by simpa [List.append_assoc] using hb, ?_, changed_size h0 hl1 hko (by omega), ?_⟩
 · have g1 : (q2 ++ p2).Perm (kids ++ (r' ++ (q' ++ p2))) := by
     have := hperm.append_right p2
     simpa [List.append_assoc] using this
   refine (List.Perm.append_left p0 g1).trans ?_
   have g2 := (List.perm_append_comm (l₁ := p0) (l₂ := kids)).append_right (r' ++ (q' ++ p2))
   simpa [List.append_assoc] using g2
 · show n0.keys.length ≤ (n0.keys.take (i - 1) ++ ks ++ n0.keys.drop i).length + 1
   simp only [List.length_append, List.length_take, List.length_drop]
   omega
end Go.Proofs.YtplieiecebljmaaGreat
namespace Go.Proofs.YtplieiecebljmaaGreat
variable {lo hi : Option Key} {P Q : Nat → Option Nd}
theorem up_behind {h : Nat} {n0 n' : Nd} {lo' hi' : Option Key} {i : Nat} {p1 p2 q' : List Nat} {L1 M' L2 : List KV} {k : Key} (h0 : n0.leaf = false) (hk0 : ∀ k ∈ n0.keys, keyOk k) (hd0 : ∀ x ∈ n0.kids, x < 1600) (hlen : n0.kids.length = n0.keys.length + 1) (hP : ∀ x n, P x = some n → nsize n ≤ 232)
   (hik : i + 1 < n0.kids.length) (hin : inB lo' hi' k)
   (hp : Pre (WfK P (h + 1)) lo lo' (n0.keys.take i) (n0.kids.take i) p1 L1) (ho : Post (WfK P (h + 1)) hi hi' (n0.keys.drop i) (n0.kids.drop (i + 1)) p2 L2) (hv : VN P (h + 1) n' lo' hi' q' M') (h1 : nsize n' < 80) :
   ∃ (o : Nd) (p2' : List Nat) (hb : i + 1 < n0.kids.length) (hb2 : i < n0.keys.length), P n0.kids[i + 1] = some o ∧ p2.Perm (n0.kids[i + 1] :: p2') ∧ 2 ≤ o.keys.length ∧
     ∀ (Q : Nat → Option Nd) (ks : List Key) (kids : List Nat), FitsOk Q (mergeN n' n0.keys[i] o) ks kids → (∀ x ∈ p1 ++ (q' ++ p2'), P x = Q x) → (∀ x ∈ kids, x < 1600) →
       ∃ p', VN Q (h + 2) (changedN n0 i (i + 2) ks kids) lo hi p' (L1 ++ (M' ++ L2)) ∧ p'.Perm (kids ++ (p1 ++ (q' ++ p2'))) ∧ nsize (changedN n0 i (i + 2) ks kids) ≤ nsize n0 + 27 ∧ n0.keys.length ≤ (changedN n0 i (i + 2) ks kids).keys.length + 1 := by
 obtain ⟨s, hi2, r, p3, N, L3, hs, rfl, hse, rfl, rfl, ⟨hw, m, hm, hm2⟩, hpost⟩ := ho.head (by rw [List.length_drop]; omega)
 have hse : s = n0.keys[i]'(by omega) := by rw [hse, List.getElem_drop]; rfl
 have hke : (n0.kids.drop (i + 1))[0]'(by rw [List.length_drop]; omega) = n0.kids[i + 1]'hik := by rw [List.getElem_drop]
 rw [hke] at hw hm
 obtain ⟨o, r', ho1, rfl, _, hvo⟩ := hw.vn
 rw [ho1] at hm
 have hm2 : 2 ≤ o.keys.length := by rw [Option.some.inj hm]; exact hm2
 clear hm
 subst hse
 have hN := (show WfK P (h + 1) (some (n0.keys[i]'(by omega))) hi2 (n0.kids[i + 1]'hik) (n0.kids[i + 1]'hik :: r') N from ⟨hw, o, ho1, hm2⟩).in
 obtain ⟨x, hx⟩ := List.exists_mem_of_ne_nil _ hN.1
 have hsk := hk0 _ (List.getElem_mem (l := n0.keys) (n := i) (by omega))
 have hmv := VN.merge hv hvo hsk (fun c hc => leK_of_lt (ltK_of_le_of_lt (hin.1 c hc) (hin.2 _ rfl))) (fun c hc => leK_of_lt (ltK_of_le_of_lt ((hN.2.2 x hx).1 _ rfl) ((hN.2.2 x hx).2 c hc)))
 have hsz := merged_size hv hvo hsk (by have := hP _ _ ho1; omega)
 have hmk := mergeN_keys (a := n') (b := o) (s := n0.keys[i]'(by omega))
 refine ⟨o, r' ++ p3, hik, by omega, ho1, List.Perm.refl _, hm2, fun Q ks kids hf hq hkd => ?_⟩
 obtain ⟨q2, hsg, hperm, hko, hl1⟩ := hmv.fits (by omega) hsz.1 hsz.2 hf fun x hx => hq x (by
   rcases List.mem_append.1 hx with hx | hx
   · exact List.mem_append_right _ (List.mem_append_left _ hx)
   · exact List.mem_append_right _ (List.mem_append_right _ (List.mem_append_left _ hx)))
 rw [List.drop_drop, List.drop_drop] at hpost
 have hb := VN.build hp hpost hsg (fun x hx => hq x (by
     rcases List.mem_append.1 hx with hx | hx
     · exact List.mem_append_left _ hx
     · exact List.mem_append_right _ (List.mem_append_right _ (List.mem_append_right _ hx))))
   (fun s hs => by
     rcases List.mem_append.1 hs with hs | hs
     · rcases List.mem_append.1 hs with hs | hs
       · exact hk0 s (List.mem_of_mem_take hs)
       · exact hko s hs
     · exact hk0 s (List.mem_of_mem_drop hs))
   (fun x hx => by
     rcases List.mem_append.1 hx with hx | hx
     · rcases List.mem_append.1 hx with hx | hx
       · exact hd0 x (List.mem_of_mem_take hx)
       · exact hkd x hx
     · exact hd0 x (List.mem_of_mem_drop hx))
 have e : changedN n0 i (i + 2) ks kids = ⟨false, n0.keys.take i ++ ks ++ n0.keys.drop (i + 1), [], n0.kids.take i ++ kids ++ n0.kids.drop (i + 1 + 1)⟩ := rfl
 rw [e]
 refine ⟨_, by simpa [List.append_assoc] using hb, ?_, changed_size h0 hl1 hko (by omega), ?_⟩
 · have g1 : (q2 ++ p3).Perm (kids ++ (q' ++ (r' ++ p3))) := by
     have := hperm.append_right p3
     simpa [List.append_assoc] using this
   refine (List.Perm.append_left p1 g1).trans ?_
   have g2 := (List.perm_append_comm (l₁ := p1) (l₂ := kids)).append_right (q' ++ (r' ++ p3))
   simpa [List.append_assoc] using g2
 · show n0.keys.length ≤ (n0.keys.take i ++ ks ++ n0.keys.drop (i + 1)).length + 1
   simp only [List.length_append, List.length_take, List.length_drop]
   omega
end Go.Proofs.YtplieiecebljmaaGreat
namespace Go.Proofs.YtplieiecebljmaaGreat
variable {lo hi : Option Key} {P : Nat → Option Nd}
def leafIx (ks : List Key) (k : Key) : Nat := ks.findIdx fun s => decide (¬ ltK s k)
theorem leafIx_le (ks : List Key) (k : Key) : leafIx ks k ≤ ks.length := List.findIdx_le_length
theorem leafIx_lt {ks : List Key} {k : Key} {j : Nat} (h : j < leafIx ks k) (hj : j < ks.length) : ltK ks[j] k := by
 have := List.not_of_lt_findIdx h
 simpa using this
theorem leafIx_ge {ks : List Key} {k : Key} (hs : ks.Pairwise ltK) {j : Nat} (h : leafIx ks k ≤ j) (hj : j < ks.length) : leK k ks[j] := by
 have h1 : leafIx ks k < ks.length := by omega
 have h2 : leK k ks[leafIx ks k] := by
   have := List.findIdx_getElem (p := fun s => decide (¬ ltK s k)) (xs := ks) (w := h1)
   exact not_ltK.1 (of_decide_eq_true this)
 rcases Nat.lt_or_ge (leafIx ks k) j with h3 | h3
 · exact leK_of_lt (ltK_of_le_of_lt h2 (List.pairwise_iff_getElem.1 hs _ _ h1 hj h3))
 · have : leafIx ks k = j := by omega
   subst this; exact h2
theorem filter_take {α : Type} {f : α → Bool} {L : List α} {i : Nat} (h1 : ∀ x ∈ L.take i, f x = true) (h2 : ∀ x ∈ L.drop i, f x = false) : L.filter f = L.take i := by
 conv => lhs; rw [← List.take_append_drop i L]
 rw [List.filter_append, List.filter_eq_self.2 h1, List.filter_eq_nil_iff.2 (fun x hx => by rw [h2 x hx]; decide), List.append_nil]
theorem filter_drop {α : Type} {f : α → Bool} {L : List α} {i : Nat} (h1 : ∀ x ∈ L.take i, f x = false) (h2 : ∀ x ∈ L.drop i, f x = true) : L.filter f = L.drop i := by
 conv => lhs; rw [← List.take_append_drop i L]
 rw [List.filter_append, List.filter_eq_nil_iff.2 (fun x hx => by rw [h1 x hx]; decide), List.filter_eq_self.2 h2, List.nil_append]
theorem zip_take {ks vs : List Key} {i : Nat} {x : KV} (h : x ∈ (ks.zip vs).take i) : ∃ (j : Nat) (hj : j < ks.length), j < i ∧ x.1 = ks[j] := by
 obtain ⟨j, hj, rfl⟩ := List.mem_take_iff_getElem.1 h
 have h1 : j < (ks.zip vs).length := by omega
 rw [List.length_zip] at h1
 exact ⟨j, by omega, by omega, by rw [List.getElem_zip]⟩
theorem zip_drop {ks vs : List Key} {i : Nat} {x : KV} (h : x ∈ (ks.zip vs).drop i) : ∃ (j : Nat) (hj : j < ks.length), i ≤ j ∧ x.1 = ks[j] := by
 obtain ⟨j, hj, rfl⟩ := List.mem_drop_iff_getElem.1 h
 have h1 : i + j < (ks.zip vs).length := by omega
 rw [List.length_zip] at h1
 exact ⟨i + j, by omega, by omega, by rw [List.getElem_zip]⟩
theorem putL_zip {ks vs : List Key} {k v : Key} (hs : ks.Pairwise ltK) : putL (ks.zip vs) k v = (ks.zip vs).take (leafIx ks k) ++ (k, v) :: (ks.zip vs).drop (if ks[leafIx ks k]? = some k then leafIx ks k + 1 else leafIx ks k) := by
 unfold putL
 rw [filter_take (f := fun p : KV => decide (ltK p.1 k)) (i := leafIx ks k) (fun x hx => by
     obtain ⟨j, hj, h1, e⟩ := zip_take hx
     rw [e]; exact decide_eq_true (leafIx_lt h1 hj)) (fun x hx => by
     obtain ⟨j, hj, h1, e⟩ := zip_drop hx
     rw [e]; exact decide_eq_false (leafIx_ge hs h1 hj))]
 congr 2
 split
 · rename_i he
   obtain ⟨hlt, he⟩ := List.getElem?_eq_some_iff.1 he
   refine filter_drop (fun x hx => ?_) (fun x hx => ?_)
   · obtain ⟨j, hj, h1, e⟩ := zip_take hx
     rw [e]
     refine decide_eq_false ?_
     rcases Nat.lt_or_ge j (leafIx ks k) with h2 | h2
     · exact ltK_asym (leafIx_lt h2 hj)
     · have : j = leafIx ks k := by omega
       subst this; rw [he]; exact ltK_irr _
   · obtain ⟨j, hj, h1, e⟩ := zip_drop hx
     rw [e]
     refine decide_eq_true ?_
     have := List.pairwise_iff_getElem.1 hs _ j hlt hj (by omega)
     rwa [he] at this
 · rename_i he
   refine filter_drop (fun x hx => ?_) (fun x hx => ?_)
   · obtain ⟨j, hj, h1, e⟩ := zip_take hx
     rw [e]
     exact decide_eq_false (ltK_asym (leafIx_lt h1 hj))
   · obtain ⟨j, hj, h1, e⟩ := zip_drop hx
     rw [e]
     refine decide_eq_true ?_
     rcases leK_iff.1 (leafIx_ge hs h1 hj) with h2 | h2
     · exact h2
     · have hlt : leafIx ks k < ks.length := by omega
       rcases Nat.lt_or_ge (leafIx ks k) j with h3 | h3
       · exact ltK_of_le_of_lt (leafIx_ge hs (Nat.le_refl _) hlt) (List.pairwise_iff_getElem.1 hs _ _ hlt hj h3)
       · have : j = leafIx ks k := by omega
         subst this
         exact absurd ((List.getElem?_eq_getElem hlt).trans (congrArg some h2.symm)) he
end Go.Proofs.YtplieiecebljmaaGreat
namespace Go.Proofs.YtplieiecebljmaaGreat
open Go Gx
theorem ofNat_val {n : Nat} (h : n < 256) : ((UInt8.ofNat n).toNat : Nat) = n := by
 simp [Nat.mod_eq_of_lt h]
end Go.Proofs.YtplieiecebljmaaGreat
namespace Go.Proofs.YtplieiecebljmaaGreat
open Go Gx
theorem conv_byteS {src dst : TypeId} {w : World} {s : Sl} {ns : List Int} (hs : Tryz.prog.underlying src = some (.slice Ty.uint8)) (hd : Tryz.prog.underlying dst = some .string) (h : Src 1 w s (ns.map (.int .u8))) :
   Sem.run Tryz.prog (convert src dst (.slice s.a s.len s.cap)) w = .ok (.string (S (ns.map fun n => UInt8.ofNat n.toNat))) w := by
 rw [run_conv_bytes hs (by kernel_rfl) hd h, bstr_eq]
end Go.Proofs.YtplieiecebljmaaGreat
namespace Go.Proofs.YtplieiecebljmaaGreat
open Go Gx
theorem rdCells_of {w : World} {A : Addr} : ∀ (vs : List Value) (i : Nat), (∀ j v, vs[j]? = some v → w.cell? (A.add (i + j)) = some v) → rdCells w A i vs.length = some vs
 | [], _, _ => rfl
 | v :: vs, i, h => by
   have h0 := h 0 v rfl
   have ih := rdCells_of vs (i + 1) (fun j u hj => by rw [show i + 1 + j = i + (j + 1) by omega]; exact h (j + 1) u (by simpa using hj))
   rw [Nat.add_zero] at h0
   simp [rdCells, h0, ih]
def u8s (l : List UInt8) : List Value := l.map fun b => Value.int .u8 ((b.toNat : Nat) : Int)
theorem u8s_length (l : List UInt8) : (u8s l).length = l.length := by simp [u8s]
theorem u8s_get {l : List UInt8} {i : Nat} (h : i < l.length) : (u8s l)[i]? = some (.int .u8 ((l[i].toNat : Nat) : Int)) := by simp [u8s, h]
end Go.Proofs.YtplieiecebljmaaGreat
namespace Go.Proofs.YtplieiecebljmaaGreat
open Go Gx
theorem byteNat (c : UInt8) : (((c.toNat : Nat) : Int).toNat.toUInt8) = c := by simp
end Go.Proofs.YtplieiecebljmaaGreat
namespace Go.Proofs.YtplieiecebljmaaGreat
open Go Gx
theorem u8s_plain (l : List UInt8) : ∀ v ∈ u8s l, Plain v := by
 intro v hv
 obtain ⟨n, _, rfl⟩ := List.mem_map.1 hv
 trivial
theorem u8s_append (a b : List UInt8) : u8s (a ++ b) = u8s a ++ u8s b := by simp [u8s]
theorem take_succ {α : Type} (ls : List α) {i : Nat} (h : i < ls.length) : ls.take (i + 1) = ls.take i ++ [ls[i]] := by
 rw [List.take_succ_eq_append_getElem h]
end Go.Proofs.YtplieiecebljmaaGreat
namespace Go.Proofs.YtplieiecebljmaaGreat
open Go Gx
structure Ad where
 six : Bool
 b : List UInt8
 h : b.length = 16
 deriving DecidableEq
def Var (w : World) (b : Nat) (vs : List Value) (T : TypeId) : Prop := Blk w b vs.toArray T
section
variable {w w' : World} {b : Nat} {vs us : List Value} {T : TypeId}
theorem Var.new (w : World) (vs : List Value) (T : TypeId) : Var (w.alloc (.cells vs.toArray T)) w.heap.size vs T := Blk.new _ _ _
theorem Var.rd (h : Var w b vs T) {n : Nat} (hn : vs.length = n) : rdCells w ⟨b, 0, none⟩ 0 n = some vs := by
 have := rdCells_blk h n 0 0 (by simp [hn])
 rw [this]
 simp [← hn]
theorem Var.rdAt (h : Var w b vs T) {o n : Nat} (hn : o + n ≤ vs.length) : rdCells w ⟨b, o, none⟩ 0 n = some ((vs.drop o).take n) := by
 have := rdCells_blk h n o 0 (by simpa using hn)
 rw [this]
 simp
theorem Var.cell (h : Var w b vs T) {i : Nat} : w.cell? ⟨b, i, none⟩ = vs[i]? := by
 rw [Blk.cell h]; simp
theorem Var.ext (h : Var w b vs T) (hx : Ext w w') : Var w' b vs T := Blk.ext h hx
theorem Var.chg {W : Nat → Prop} (h : Var w b vs T) (hx : Chg W w w') (hb : ¬ W b) : Var w' b vs T := Blk.chg h hx hb
theorem Var.drew (h : Var w b vs T) : Var w.drew b vs T := Blk.drew h
theorem Var.lt (h : Var w b vs T) : b < w.heap.size := Blk.lt h
theorem Var.storeOk (h : Var w b vs T) (hn : us.length = vs.length) (hp : ∀ v ∈ us, Plain v) : StoreOk w ⟨b, 0, none⟩ us := Blk.storeOk h 0 us (by simp [hn]) hp
theorem Var.put (h : Var w b vs T) (hn : us.length = vs.length) : Var (setCells w ⟨b, 0, none⟩ 0 us) b us T := by
 have := Blk.sets us 0 0 h
 simp only [Nat.add_zero] at this
 have e : (spl vs.toArray 0 us) = us.toArray := by
   have h1 := take_spl us vs.toArray 0 (by simp [hn])
   rw [Nat.zero_add, hn, List.take_zero, List.nil_append, List.take_of_length_le (by rw [Array.length_toList, spl_size]; simp)] at h1
   apply Array.toList_inj.1
   rw [h1]
 rwa [e] at this
end
theorem nx {w : World} {K : World → Prop} (h : K w) : Nx w K := h
theorem nxVar {w : World} {c : Array Value} {vs : List Value} {T : TypeId} (hc : c = vs.toArray) {K : World → Prop} (h : ∀ w', Var w' w.heap.size vs T → Ext w w' → w'.heap.size = w.heap.size + 1 → K w') : Nx (w.alloc (.cells c T)) K := by
 subst hc
 exact h _ (Var.new _ _ _) (Chg.alloc (.refl _ _) _) (by simp)
theorem nxPut {w : World} {b : Nat} {vs us l : List Value} {T : TypeId} (hv : Var w b vs T) (hn : us.length = vs.length) (hl : l = us) {K : World → Prop} (h : ∀ w', Var w' b us T → Chg (fun q => q = b) w w' → w'.heap.size = w.heap.size → K w') : Nx (setCells w ⟨b, 0, none⟩ 0 l) K := by
 subst hl
 refine h _ (hv.put hn) (Chg.setsB (.refl _ _) l 0) ?_
 have : ∀ (vs : List Value) (i : Nat) (w : World), (setCells w ⟨b, 0, none⟩ i vs).heap.size = w.heap.size := by
   intro vs
   induction vs with
   | nil => intro i w; rfl
   | cons v vs ih => intro i w; rw [setCells, ih]; simp [World.setCell]
 exact this _ _ _
theorem Ext.of_chg {w0 w w' : World} {b : Nat} (h : Ext w0 w) (hc : Chg (fun q => q = b) w w') (hb : w0.heap.size ≤ b) : Ext w0 w' := Ext.of_new h hc (fun k hk => by subst hk; exact hb)
theorem Var.src8 {w : World} {b o n c : Nat} {vs : List Value} {T : TypeId} {l : List UInt8} (h : Var w b vs T) (hn : o + n ≤ vs.length) (hl : (vs.drop o).take n = u8s l) : Src 1 w ⟨some ⟨b, o, none⟩, n, c⟩ (u8s l) := by
 have hlen : n = l.length := by
   have := congrArg List.length hl
   rw [List.length_take, List.length_drop, u8s_length] at this
   omega
 refine ⟨by rw [u8s_length]; show _ = n * 1; omega, (fun h => by cases h), fun a ha => ?_⟩
 cases ha
 show rdCells w ⟨b, o, none⟩ 0 (n * 1) = _
 rw [Nat.mul_one, h.rdAt hn, hl]
theorem appByte : AppT Tryz.prog Ty.Sl_uint8 Ty.uint8 1 1 := ⟨by kernel_rfl⟩
theorem run_copy_sl {dT sT ty : TypeId} {w : World} {b o dl dc : Nat} {s : Sl} {l : List UInt8} (hu : Tryz.prog.underlying dT = some (.slice Ty.uint8)) (hs : Src 1 w s (u8s l)) (hle : s.len ≤ dl) (hst : StoreOk w ⟨b, o, none⟩ (u8s l)) :
   Sem.run Tryz.prog (Builtin.copy_ #[dT, sT] ty #[.slice (some ⟨b, o, none⟩) dl dc, .slice s.a s.len s.cap]) w = .ok (.int .i64 ((s.len : Nat) : Int)) (setCells w ⟨b, o, none⟩ 0 (u8s l)) := by
 have hmin : Nat.min s.len dl = s.len := Nat.min_eq_left hle
 have hz := run_sizeOf' (P := Tryz.prog) (w := w) (t := Ty.uint8) (d := .int .u8) (by kernel_rfl)
 have hc : Tryz.prog.cellsOf Ty.uint8 = 1 := by kernel_rfl
 rw [hc] at hz
 have hf := run_firstCells (P := Tryz.prog) hs
 have hst' := run_storeCells (P := Tryz.prog) (A := ⟨b, o, none⟩) (u8s l) 0 w (by simpa using hst.1) hst.2
 simp [Builtin.copy_, run_underlying' hu, Builtin.lenOf, hz, hmin, hf, hst']
 rfl
end Go.Proofs.YtplieiecebljmaaGreat
namespace Go.Proofs.YtplieiecebljmaaGreat
open Go Gx
def kb (n i : Nat) : Nat := min (n - 8 * i) 8
end Go.Proofs.YtplieiecebljmaaGreat
namespace Go.Proofs.YtplieiecebljmaaGreat
open Go Gx
theorem Src.sub {w : World} {s : Sl} {vs : List Value} {lo hi : Nat} (h : Src 1 w s vs) (hc : s.len ≤ s.cap) (h1 : lo ≤ hi) (h2 : hi ≤ s.len) : Src 1 w ⟨cutA s.a 1 lo s.cap, hi - lo, s.cap - lo⟩ ((vs.drop lo).take (hi - lo)) := by
 have hl : vs.length = s.len := by have := h.len; omega
 refine ⟨by simp; omega, fun hn => ?_, fun a ha => ?_⟩
 · have hsa : s.a = none := by
     unfold cutA at hn
     split at hn
     · exact hn
     · simpa using hn
   simp [h.nil hsa]
 · show rdCells w a 0 ((hi - lo) * 1) = _
   by_cases e : hi = lo
   · rw [show hi - lo = 0 by omega]; simp [rdCells]
   · have hA : ∃ A, s.a = some A ∧ a = A.add lo := by
       unfold cutA at ha
       rw [if_neg (by omega)] at ha
       cases hs : s.a with
       | none => rw [hs] at ha; cases ha
       | some A => rw [hs] at ha; exact ⟨A, rfl, by simpa using ha.symm⟩
     obtain ⟨A, hA, rfl⟩ := hA
     have hr := h.rd A hA
     have := rdCells_of (w := w) (A := A.add lo) ((vs.drop lo).take (hi - lo)) 0 (fun j v hj => by
       rw [add_add]
       have hj2 : j < hi - lo := by have := (List.getElem?_eq_some_iff.1 hj).1; simp at this; omega
       rw [List.getElem?_take_of_lt hj2, List.getElem?_drop] at hj
       have := rdCells_get hr hj
       simpa using this)
     have e2 : ((vs.drop lo).take (hi - lo)).length = hi - lo := by simp; omega
     rw [e2] at this
     rw [Nat.mul_one]
     exact this
def beN (l : List UInt8) : Nat := l.foldl (fun n c => n * 256 + c.toNat) 0
theorem beN_append (l m : List UInt8) : beN (l ++ m) = m.foldl (fun n c => n * 256 + c.toNat) (beN l) := by simp [beN, List.foldl_append]
theorem beN_snoc (l : List UInt8) (c : UInt8) : beN (l ++ [c]) = beN l * 256 + c.toNat := by rw [beN_append]; rfl
theorem beN_lt : ∀ (k : Nat) (l : List UInt8), l.length = k → beN l < 256 ^ k := by
 intro k
 induction k with
 | zero => intro l h; rw [List.length_eq_zero_iff.1 h]; simp [beN]
 | succ k ih =>
   intro l h
   obtain ⟨m, c, rfl⟩ : ∃ m c, l = m ++ [c] := by
     rcases List.eq_nil_or_concat l with rfl | ⟨m, c, hm⟩
     · simp at h
     · exact ⟨m, c, by rw [hm, List.concat_eq_append]⟩
   rw [beN_snoc, Nat.pow_succ]
   have := ih m (by simpa using h)
   have := UInt8.toNat_lt c
   omega
theorem bOr64 {a b : Nat} (ha : a < 2 ^ 64) (hb : b < 2 ^ 64) : bOr .u64 (a : Int) (b : Int) = ((a ||| b : Nat) : Int) := by
 have e1 : BitVec.ofInt 64 (a : Int) = BitVec.ofNat 64 a := by simp
 have e2 : BitVec.ofInt 64 (b : Int) = BitVec.ofNat 64 b := by simp
 unfold bOr
 show IntKind.u64.wrap (((BitVec.ofInt 64 (a : Int) ||| BitVec.ofInt 64 (b : Int)).toNat : Nat) : Int) = _
 rw [e1, e2, BitVec.toNat_or, BitVec.toNat_ofNat, BitVec.toNat_ofNat, Nat.mod_eq_of_lt ha, Nat.mod_eq_of_lt hb]
 have : a ||| b < 2 ^ 64 := Nat.or_lt_two_pow ha hb
 have : a ||| b < 18446744073709551616 := this
 rw [wr64 (by omega) (by omega)]
theorem or_byte (n c : Nat) (hc : c < 256) : n * 256 ||| c = n * 256 + c := by
 have := Nat.shiftLeft_add_eq_or_of_lt (i := 8) (b := c) (by simpa using hc) n
 rw [Nat.shiftLeft_eq] at this
 exact this.symm
theorem num_Get {s : Sl} {l : List UInt8} {w : World} (hs : Src 1 w s (u8s l)) (hc : s.len ≤ s.cap) {a k : Nat} (hk : 1 ≤ k ∧ k ≤ 8) (ha : a + k ≤ l.length) (hl : l.length ≤ 1000000000000) :
   Ret Tryz.prog F.num_Get #[.slice s.a s.len s.cap, .int .i64 a, .int .i64 k] w (fun v w' => v = .tuple #[.int .u64 ((beN ((l.drop a).take k) : Nat) : Int), .bool true] ∧ w = w') := by
 refine W.num_Get_ok s a k w _ ?_
 (delta W.num_Get c15 Br c3 bd r4 wI; dsimp only)
 have hsl : s.len = l.length := by have := hs.len; rw [u8s_length] at this; omega
 refine Calls.mono (W.num_cut_ok s a k w (fun v w' => v = .tuple #[.slice (cutA s.a 1 a s.cap) k (s.cap - a), .bool true] ∧ w = w') ?_) ?_
 · delta W.num_cut Br wI
   rw [wrapi (n := ((s.len : Nat) : Int) - (a : Int)) (by omega) (by omega), wrapi (n := (a : Int) + (k : Int)) (by omega) (by omega)]
   refine ⟨fun h => ?_, fun _ => ⟨⟨by omega, by omega⟩, ⟨by omega, by omega⟩, ?_, rfl⟩⟩
   · simp only [Bool.or_eq_true, decide_eq_true_eq] at h; omega
   · rw [show Int.toNat ((a : Int) + (k : Int)) - Int.toNat (a : Int) = k by omega]; rfl
 rintro _ _ ⟨_, rfl, rfl, rfl⟩
 refine ⟨⟨cutA s.a 1 a s.cap, k, s.cap - a⟩, true, rfl, Jn1 (fun b w' => b = false ∧ w = w') (fun q hq => ⟨fun h => by simp at h, fun _ => ?_⟩) ?_⟩
 · refine Calls.mono (W.num_good_ok k w (fun v w' => v = .bool true ∧ w = w') ⟨?_, rfl⟩) ?_
   · have h1 : decide ((k : Int) ≥ 1) = true := decide_eq_true (by omega)
     have h2 : decide ((k : Int) ≤ 8) = true := decide_eq_true (by omega)
     rw [h1, h2]; rfl
   · rintro _ _ ⟨_, rfl, rfl, rfl⟩
     exact ⟨_, rfl, hq _ _ ⟨rfl, rfl⟩⟩
 rintro _ _ ⟨rfl, rfl⟩
 have hsub := Src.sub hs hc (lo := a) (hi := a + k) (by omega) (by omega)
 rw [show a + k - a = k by omega] at hsub
 have hsub : Src 1 w ⟨cutA s.a 1 a s.cap, k, s.cap - a⟩ (u8s ((l.drop a).take k)) := by
   simpa [u8s, List.map_drop, List.map_take] using hsub
 obtain ⟨m, hm⟩ : ∃ m, m = (l.drop a).take k := ⟨_, rfl⟩
 have hml : m.length = k := by rw [hm]; simp; omega
 rw [← hm] at hsub ⊢
 refine ⟨fun h => by simp at h, fun _ => ⟨fun n i w' => w = w' ∧ ∃ j : Nat, i = j ∧ j ≤ k ∧ n = ((beN (m.take j) : Nat) : Int), fun _ i _ => ((k : Int) - i).toNat, ⟨rfl, 0, rfl, Nat.zero_le _, rfl⟩, ?_⟩⟩
 rintro _ _ _ ⟨rfl, j, rfl, hj, rfl⟩
 refine ⟨fun hlt => ?_, fun hge => ?_⟩
 · have hlt : ((j : Int) < ((k : Nat) : Int)) := of_decide_eq_true hlt
   have hlt : j < k := by omega
   obtain ⟨A, hA, hb, hcell⟩ := hsub.at (u8s_get (l := m) (i := j) (by omega))
   have h1 := beN_lt j (m.take j) (by simp; omega)
   have h2 : 256 ^ j ≤ 256 ^ 7 := Nat.pow_le_pow_right (by omega) (by omega)
   have h2 : 256 ^ j ≤ 72057594037927936 := h2
   have hc256 : (m[j]).toNat < 256 := UInt8.toNat_lt _
   have e1 : ((beN (m.take j) : Nat) : Int) * 2 ^ (min (Int.toNat 8) 64) = ((beN (m.take j) * 256 : Nat) : Int) := by
     show ((beN (m.take j) : Nat) : Int) * 256 = _; omega
   refine ⟨A, hA, hb, _, hcell, by decide, ?_⟩
   rw [e1, wr64 (n := ((beN (m.take j) * 256 : Nat) : Int)) (by omega) (by omega), wr64 (n := ((m[j].toNat : Nat) : Int)) (by omega) (by omega), bOr64 (by show _ < 18446744073709551616; omega) (by show _ < 18446744073709551616; omega), or_byte _ _ hc256, wrapi (n := (j : Int) + 1) (by omega) (by omega)]
   refine ⟨⟨rfl, j + 1, by omega, by omega, ?_⟩, ?_⟩
   · rw [take_succ m (by omega), beN_snoc]
   · show ((k : Int) - ((j : Int) + 1)).toNat < ((k : Int) - (j : Int)).toNat
     omega
 · have hge : ¬ ((j : Int) < ((k : Nat) : Int)) := of_decide_eq_false hge
   have hge : j = k := by omega
   subst hge
   exact ⟨by rw [List.take_of_length_le (by omega)], rfl⟩
end Go.Proofs.YtplieiecebljmaaGreat
namespace Go.Proofs.YtplieiecebljmaaGreat
open Go Gx
theorem clone8 {w : World} {s : Sl} {l : List UInt8} (h : Src 1 w s (u8s l)) (hl : l.length ≤ 1000000) :
   Ret Tryz.prog F.slices_Clone_Sl_byte_byte #[.slice s.a s.len s.cap] w (fun v w' => ∃ s' : Sl, v = .slice s'.a s'.len s'.cap ∧ OwnS 1 Ty.uint8 w' s' (u8s l) ∧ Ext w w' ∧ ∀ k, ownB s' k → w.heap.size ≤ k) := by
 have hsl : s.len = l.length := by have := h.len; rw [u8s_length] at this; omega
 refine W.slices_Clone_Sl_byte_byte_ok s w _ ?_
 delta W.slices_Clone_Sl_byte_byte Br nA
 refine ⟨fun ha => ?_, fun _ => ?_⟩
 · have ha : s.a = none := by simpa using ha
   rw [h.nil ha]
   exact ⟨⟨none, 0, 0⟩, rfl, OwnS.none _ _ _, .refl _ _, fun k hk => (ownB_none k hk).elim⟩
 · obtain ⟨s', w', h1, h2, h3, h4, h5, _⟩ := appByte.clone (oT := Ty.Sl_uint8) h (u8s_plain l) (by omega)
   exact nx ⟨s', w', h1, s', rfl, h2, h4, h5⟩
theorem pushByte {w : World} {s : Sl} {l : List UInt8} (c : UInt8) (ho : OwnS 1 Ty.uint8 w s (u8s l)) (hn : l.length ≤ 1000000) :
   ∃ (s' : Sl) (w' : World), Sem.run Tryz.prog (Builtin.append_ #[Ty.Sl_uint8, Ty.Sl_uint8] Ty.Sl_uint8 #[.slice s.a s.len s.cap, .slice (some ⟨w.heap.size, 0, none⟩) 1 1]) (w.alloc (.cells #[.int .u8 ((c.toNat : Nat) : Int)] Ty.uint8)) = .ok (.slice s'.a s'.len s'.cap) w' ∧
     OwnS 1 Ty.uint8 w' s' (u8s (l ++ [c])) ∧ Chg (ownB s) w w' ∧ (∀ k, ownB s' k → ownB s k ∨ w.heap.size ≤ k) := by
 have hsl : s.len = l.length := by have := ho.1; rw [u8s_length] at this; omega
 obtain ⟨s', w', h1, h2, h3, h4, h5⟩ := appByte.push (oT := Ty.Sl_uint8) (w := w) (s := s) (xs := [.int .u8 ((c.toNat : Nat) : Int)]) rfl ho (fun v hv => by rw [List.mem_singleton.1 hv]; trivial) (by omega)
 exact ⟨s', w', h1, by rw [u8s_append]; exact h2, h4, h5⟩
def beB (n k : Nat) : List UInt8 := (List.range k).map fun j => UInt8.ofNat (n / 256 ^ (k - 1 - j) % 256)
theorem beB_length (n k : Nat) : (beB n k).length = k := by simp [beB]
theorem num_Put {s : Sl} {l : List UInt8} {w : World} (hs : Src 1 w s (u8s l)) (hl : l.length ≤ 100000) {n k : Nat} (hn : n < 2 ^ 64) (hk : 1 ≤ k ∧ k ≤ 8) :
   Ret Tryz.prog F.num_Put #[.slice s.a s.len s.cap, .int .u64 n, .int .i64 k] w (fun v w' => ∃ s' : Sl, v = .slice s'.a s'.len s'.cap ∧ OwnS 1 Ty.uint8 w' s' (u8s (l ++ beB n k)) ∧ Ext w w' ∧ ∀ q, ownB s' q → w.heap.size ≤ q) := by
 have hn : n < 18446744073709551616 := hn
 refine W.num_Put_ok s n k w _ ?_
 (delta W.num_Put c12 c3 Br wI nA; dsimp only)
 refine (clone8 hs (by omega)).use ?_
 rintro _ w1 ⟨s1, rfl, ho1, hx1, hf1⟩
 refine ⟨s1, rfl, Calls.mono (W.num_good_ok k w1 (fun v w' => v = .bool true ∧ w1 = w') ⟨?_, rfl⟩) ?_⟩
 · have h1 : decide ((k : Int) ≥ 1) = true := decide_eq_true (by omega)
   have h2 : decide ((k : Int) ≤ 8) = true := decide_eq_true (by omega)
   rw [h1, h2]; rfl
 rintro _ _ ⟨_, rfl, rfl, rfl⟩
 rw [wrapi (n := (k : Int) - 1) (by omega) (by omega)]
 refine ⟨_, rfl, fun h => by simp at h, fun _ => ⟨fun t i w' => ∃ j : Nat, i = (k : Int) - 1 - j ∧ j ≤ k ∧ Ext w w' ∧ (∀ q, ownB t q → w.heap.size ≤ q) ∧ OwnS 1 Ty.uint8 w' t (u8s (l ++ (beB n k).take j)), fun _ i _ => (i + 1).toNat, ⟨0, by omega, by omega, hx1, hf1, by simpa using ho1⟩, ?_⟩⟩
 rintro t _ w2 ⟨j, rfl, hj, hx2, hf2, ho2⟩
 refine ⟨fun hlt => ?_, fun hge => ?_⟩
 · have hlt : j < k := by have := of_decide_eq_true hlt; omega
   rw [wrapi (n := 8 * ((k : Int) - 1 - j)) (by omega) (by omega), wrapi (n := (k : Int) - 1 - j - 1) (by omega) (by omega)]
   have hv : IntKind.wrap .u8 (Int.fdiv (n : Int) (2 ^ (min (Int.toNat (8 * ((k : Int) - 1 - j))) 64))) = ((((UInt8.ofNat (n / 256 ^ (k - 1 - j) % 256)).toNat : Nat)) : Int) := by
     rw [ofNat_val (Nat.mod_lt _ (by omega)), show min (Int.toNat (8 * ((k : Int) - 1 - j))) 64 = 8 * (k - 1 - j) by omega, wr8m]
     have e1 : ((2 : Int) ^ (8 * (k - 1 - j))) = ((256 ^ (k - 1 - j) : Nat) : Int) := by
       rw [Int.pow_mul]
       simp
     rw [e1, Int.fdiv_eq_ediv_of_nonneg _ (Int.natCast_nonneg _)]
     generalize 256 ^ (k - 1 - j) = z
     rfl
   rw [hv]
   obtain ⟨s3, w3, h1, h2, h3, h4⟩ := pushByte (UInt8.ofNat (n / 256 ^ (k - 1 - j) % 256)) ho2 (by simp [beB]; omega)
   refine ⟨by omega, nx ⟨s3, w3, h1, ⟨j + 1, by omega, by omega, Ext.of_new hx2 h3 hf2, fun q hq => ?_, ?_⟩, ?_⟩⟩
   · rcases h4 q hq with h | h
     · exact hf2 q h
     · exact Nat.le_trans hx2.size h
   · rw [take_succ _ (by rw [beB_length]; exact hlt), ← List.append_assoc]
     have : (beB n k)[j]'(by rw [beB_length]; exact hlt) = UInt8.ofNat (n / 256 ^ (k - 1 - j) % 256) := by simp [beB]
     rw [this]; exact h2
   · show ((k : Int) - 1 - j - 1 + 1).toNat < ((k : Int) - 1 - j + 1).toNat
     omega
 · have hge : j = k := by have := of_decide_eq_false hge; omega
   subst hge
   rw [List.take_of_length_le (by rw [beB_length]; exact Nat.le_refl _)] at ho2
   exact ⟨t, rfl, ho2, hx2, hf2⟩
end Go.Proofs.YtplieiecebljmaaGreat
namespace Go.Proofs.YtplieiecebljmaaGreat
open Go Gx
theorem beB_succ (n k : Nat) : beB n (k + 1) = beB (n / 256) k ++ [UInt8.ofNat (n % 256)] := by
 unfold beB
 rw [List.range_succ, List.map_append]
 congr 1
 · apply List.map_congr_left
   intro j hj
   have := List.mem_range.1 hj
   rw [show k + 1 - 1 - j = (k - 1 - j) + 1 by omega, Nat.pow_succ, Nat.mul_comm, ← Nat.div_div_eq_div_mul]
 · simp
theorem beN_beB : ∀ (k n : Nat), n < 256 ^ k → beN (beB n k) = n
 | 0, n, h => by
   have : n = 0 := by simpa using h
   subst this; rfl
 | k + 1, n, h => by
   rw [Nat.pow_succ] at h
   rw [beB_succ, beN_snoc, beN_beB k (n / 256) (by omega), ofNat_val (Nat.mod_lt _ (by omega))]
   omega
def SoundN (n : Nd) : Prop := LeafOk n ∨ InnerOk n
def lenB (l : Key) : List UInt8 := UInt8.ofNat l.length :: l
def cellB (n : Nd) (i : Nat) : List UInt8 := lenB (n.keys.getD i []) ++ if n.leaf then lenB (n.vals.getD i []) else beB (n.kids.getD (i + 1) 0) 2
def cellsFrom (n : Nd) (i m : Nat) : List UInt8 := ((List.range' i m).map (cellB n)).flatten
theorem cellsFrom_succ (n : Nd) (i m : Nat) : cellsFrom n i (m + 1) = cellB n i ++ cellsFrom n (i + 1) m := rfl
theorem cellsFrom_snoc (n : Nd) (m : Nat) : cellsFrom n 0 (m + 1) = cellsFrom n 0 m ++ cellB n m := by
 unfold cellsFrom
 rw [List.range'_concat, List.map_append, List.flatten_append]
 simp
def preB (n : Nd) : List UInt8 := UInt8.ofNat n.keys.length :: if n.leaf then [] else beB (n.kids.getD 0 0) 2
def encN (n : Nd) : List UInt8 := preB n ++ cellsFrom n 0 n.keys.length
theorem lenB_length (l : Key) : (lenB l).length = l.length + 1 := rfl
theorem SoundN.keys {n : Nd} (h : SoundN n) : KeysOk n := by
 rcases h with h | h
 · exact h.toKeysOk
 · exact h.toKeysOk
theorem SoundN.vals {n : Nd} (h : SoundN n) : ∀ v ∈ n.vals, v.length ≤ 24 := by
 rcases h with h | h
 · exact h.vals
 · rw [h.vals]; simp
theorem SoundN.kids {n : Nd} (h : SoundN n) : ∀ k ∈ n.kids, k < 1600 := by
 rcases h with h | h
 · rw [h.kids]; simp
 · exact h.kids
theorem getD_mem {α : Type} {l : List α} {i : Nat} {d : α} (h : i < l.length) : l.getD i d ∈ l := by
 rw [List.getD_eq_getElem?_getD, List.getElem?_eq_getElem h]
 exact List.getElem_mem h
theorem cellB_length {n : Nd} (h : SoundN n) {i : Nat} (hi : i < n.keys.length) : (cellsOf n)[i]? = some (cellB n i).length := by
 unfold cellsOf cellB
 rcases h with h | h
 · rw [h.leaf]
   simp only [if_true]
   have hv : i < n.vals.length := by rw [h.len]; exact hi
   rw [List.getElem?_zipWith, List.getElem?_eq_getElem hi, List.getElem?_eq_getElem hv]
   simp [List.getD_eq_getElem?_getD, List.getElem?_eq_getElem hi, List.getElem?_eq_getElem hv, lenB_length]
   omega
 · rw [h.inner]
   simp only [Bool.false_eq_true, if_false]
   rw [List.getElem?_map, List.getElem?_eq_getElem hi]
   simp [List.getD_eq_getElem?_getD, List.getElem?_eq_getElem hi, lenB_length, beB_length]
   omega
theorem cellsOf_length {n : Nd} (h : SoundN n) : (cellsOf n).length = n.keys.length := by
 unfold cellsOf
 rcases h with h | h
 · rw [h.leaf]; simp [h.len]
 · rw [h.inner]; simp
theorem cellsFrom_length {n : Nd} (h : SoundN n) : ∀ m, m ≤ n.keys.length → (cellsFrom n 0 m).length = ((cellsOf n).take m).sum
 | 0, _ => by simp [cellsFrom]
 | m + 1, hm => by
   have hl : m < (cellsOf n).length := by rw [cellsOf_length h]; omega
   have h1 := cellB_length h (i := m) (by omega)
   rw [List.getElem?_eq_getElem hl] at h1
   have h1 : (cellsOf n)[m] = (cellB n m).length := Option.some.inj h1
   rw [cellsFrom_snoc, List.length_append, cellsFrom_length h m (by omega), sum_take_succ hl, h1]
theorem encN_length {n : Nd} (h : SoundN n) : (encN n).length = nsize n := by
 have e : ((cellsOf n).take n.keys.length).sum = (cellsOf n).sum := by rw [List.take_of_length_le (by rw [cellsOf_length h]; exact Nat.le_refl _)]
 unfold encN nsize preB
 rw [List.length_append, cellsFrom_length h _ (Nat.le_refl _), e]
 cases n.leaf <;> simp [beB_length]
theorem keys_few {n : Nd} (h : SoundN n) : 2 * n.keys.length ≤ nsize n := by
 have h1 : ∀ l : List Nat, (∀ x ∈ l, 2 ≤ x) → 2 * l.length ≤ l.sum := by
   intro l
   induction l with
   | nil => simp
   | cons a l ih =>
     intro h
     have := h a (by simp)
     have := ih fun x hx => h x (by simp [hx])
     simp only [List.length_cons, List.sum_cons]; omega
 have h2 := h1 (cellsOf n) (by
   intro x hx
   obtain ⟨i, hi, rfl⟩ := List.getElem_of_mem hx
   have hi' : i < n.keys.length := by rwa [← cellsOf_length h]
   have h3 := cellB_length h hi'
   rw [List.getElem?_eq_getElem hi] at h3
   rw [Option.some.inj h3]
   unfold cellB
   rw [List.length_append, lenB_length]
   split
   · rw [lenB_length]; omega
   · rw [beB_length]; omega)
 rw [cellsOf_length h] at h2
 unfold nsize
 omega
abbrev Rd := List UInt8 × Bool
def rdTake (r : Rd) (k : Nat) : List UInt8 × Rd := if r.2 = false ∨ r.1.length < k then ([], (r.1, false)) else (r.1.take k, (r.1.drop k, true))
def rdNum (r : Rd) (k : Nat) : Nat × Rd := (if (rdTake r k).1.length = k then beN (rdTake r k).1 else 0, (rdTake r k).2)
def rdText (r : Rd) : List UInt8 × Rd := rdTake (rdNum r 1).2 (rdNum r 1).1
def decStep (s : Nd × Rd) : Nd × Rd :=
 let t := rdText s.2
 if s.1.leaf then (⟨s.1.leaf, s.1.keys ++ [t.1], s.1.vals ++ [(rdText t.2).1], s.1.kids⟩, (rdText t.2).2)
 else (⟨s.1.leaf, s.1.keys ++ [t.1], s.1.vals, s.1.kids ++ [(rdNum t.2 2).1]⟩, (rdNum t.2 2).2)
def decIter (s : Nd × Rd) : Nat → Nd × Rd
 | 0 => s
 | i + 1 => decStep (decIter s i)
def decHead (leaf : Bool) (r : Rd) : Nd × Rd := if leaf then (⟨true, [], [], []⟩, r) else (⟨false, [], [], [(rdNum r 2).1]⟩, (rdNum r 2).2)
def decRun (leaf : Bool) (b : List UInt8) : Nd × Rd := decIter (decHead leaf (rdNum (b, true) 1).2) (rdNum (b, true) 1).1
def DecOk (leaf : Bool) (b : List UInt8) (n : Nd) : Prop := SoundN n ∧ n.leaf = leaf ∧ nsize n ≤ 232 ∧ encN n = b
theorem rdTake_app (a b : List UInt8) : rdTake (a ++ b, true) a.length = (a, (b, true)) := by
 unfold rdTake
 rw [if_neg (by simp)]
 simp
theorem rdNum_app {n k : Nat} (b : List UInt8) (h : n < 256 ^ k) : rdNum (beB n k ++ b, true) k = (n, (b, true)) := by
 unfold rdNum
 have := rdTake_app (beB n k) b
 rw [beB_length] at this
 rw [this]
 simp [beB_length, beN_beB k n h]
theorem ofNat_beB (n : Nat) (h : n < 256) : [UInt8.ofNat n] = beB n 1 := by
 simp [beB, Nat.mod_eq_of_lt h]
theorem rdText_app (l : Key) (b : List UInt8) (h : l.length < 256) : rdText (lenB l ++ b, true) = (l, (b, true)) := by
 have e : lenB l ++ b = beB l.length 1 ++ (l ++ b) := by
   rw [← ofNat_beB _ h]; rfl
 unfold rdText
 rw [e, rdNum_app _ (by simpa using h)]
 exact rdTake_app l b
theorem decStep_app {n : Nd} (h : SoundN n) {i : Nat} (hi : i < n.keys.length) (b : List UInt8) :
   decStep (⟨n.leaf, n.keys.take i, n.vals.take i, if n.leaf then [] else n.kids.take (i + 1)⟩, (cellB n i ++ b, true)) =
     (⟨n.leaf, n.keys.take (i + 1), n.vals.take (i + 1), if n.leaf then [] else n.kids.take (i + 2)⟩, (b, true)) := by
 have hk : n.keys.getD i [] ∈ n.keys := getD_mem hi
 have hkl := (h.keys.ok _ hk).2
 have ek : n.keys.take (i + 1) = n.keys.take i ++ [n.keys.getD i []] := by
   rw [take_succ _ hi, List.getD_eq_getElem?_getD, List.getElem?_eq_getElem hi]; rfl
 unfold decStep
 unfold cellB
 rcases h with h | h
 · have hv : i < n.vals.length := by rw [h.len]; exact hi
   have hvm : n.vals.getD i [] ∈ n.vals := getD_mem hv
   have ev : n.vals.take (i + 1) = n.vals.take i ++ [n.vals.getD i []] := by
     rw [take_succ _ hv, List.getD_eq_getElem?_getD, List.getElem?_eq_getElem hv]; rfl
   simp only [h.leaf, if_true]
   rw [List.append_assoc, rdText_app _ _ (by omega)]
   simp only
   rw [rdText_app _ _ (by have := h.vals _ hvm; omega), ek, ev]
 · have hv : i + 1 < n.kids.length := by rw [h.len]; omega
   have hvm : n.kids.getD (i + 1) 0 ∈ n.kids := getD_mem hv
   have ev : n.kids.take (i + 2) = n.kids.take (i + 1) ++ [n.kids.getD (i + 1) 0] := by
     rw [take_succ _ hv, List.getD_eq_getElem?_getD, List.getElem?_eq_getElem hv]; rfl
   simp only [h.inner, Bool.false_eq_true, if_false, h.vals]
   rw [List.append_assoc, rdText_app _ _ (by omega)]
   simp only
   rw [rdNum_app _ (by have := h.kids _ hvm; show _ < 65536; omega), ek, ev]
   simp
theorem decIter_app {n : Nd} (h : SoundN n) : ∀ i, i ≤ n.keys.length →
   decIter (⟨n.leaf, [], [], if n.leaf then [] else n.kids.take 1⟩, (cellsFrom n 0 n.keys.length, true)) i = (⟨n.leaf, n.keys.take i, n.vals.take i, if n.leaf then [] else n.kids.take (i + 1)⟩, (cellsFrom n i (n.keys.length - i), true))
 | 0, _ => by simp [decIter]
 | i + 1, hi => by
   rw [decIter, decIter_app h i (by omega), show n.keys.length - i = n.keys.length - (i + 1) + 1 by omega, cellsFrom_succ]
   exact decStep_app h (by omega) _
theorem decRun_enc {n : Nd} (h : SoundN n) (hn : nsize n ≤ 232) : decRun n.leaf (encN n) = (n, ([], true)) := by
 have hk := keys_few h
 unfold decRun
 have e1 : rdNum (encN n, true) 1 = (n.keys.length, ((if n.leaf then [] else beB (n.kids.getD 0 0) 2) ++ cellsFrom n 0 n.keys.length, true)) := by
   have : encN n = beB n.keys.length 1 ++ ((if n.leaf then [] else beB (n.kids.getD 0 0) 2) ++ cellsFrom n 0 n.keys.length) := by
     rw [← ofNat_beB _ (by omega)]; rfl
   rw [this, rdNum_app _ (by show _ < 256; omega)]
 rw [e1]
 simp only
 have e2 : decHead n.leaf ((if n.leaf then [] else beB (n.kids.getD 0 0) 2) ++ cellsFrom n 0 n.keys.length, true) = (⟨n.leaf, [], [], if n.leaf then [] else n.kids.take 1⟩, (cellsFrom n 0 n.keys.length, true)) := by
   unfold decHead
   rcases h with h | h
   · simp [h.leaf]
   · have hd : 0 < n.kids.length := by rw [h.len]; omega
     have hm : n.kids.getD 0 0 ∈ n.kids := getD_mem hd
     have := h.kids _ hm
     simp only [h.inner, Bool.false_eq_true, if_false]
     rw [rdNum_app _ (by show _ < 65536; omega)]
     cases hkk : n.kids with
     | nil => rw [hkk] at hd; simp at hd
     | cons a l => simp
 rw [e2, decIter_app h _ (Nat.le_refl _)]
 have e3 : cellsFrom n n.keys.length (n.keys.length - n.keys.length) = [] := by rw [Nat.sub_self]; rfl
 rw [e3, List.take_of_length_le (Nat.le_refl _)]
 rcases h with h | h
 · rw [List.take_of_length_le (by rw [h.len]; exact Nat.le_refl _)]
   have := h.kids
   have := h.leaf
   cases n
   simp_all
 · rw [List.take_of_length_le (by rw [h.vals]; simp), List.take_of_length_le (by rw [h.len]; exact Nat.le_refl _)]
   have := h.inner
   cases n
   simp_all
theorem DecOk.uniq {leaf : Bool} {b : List UInt8} {n m : Nd} (h1 : DecOk leaf b n) (h2 : DecOk leaf b m) : n = m := by
 obtain ⟨a1, a2, a3, a4⟩ := h1
 obtain ⟨b1, b2, b3, b4⟩ := h2
 have e1 := decRun_enc a1 a3
 have e2 := decRun_enc b1 b3
 rw [a2, a4] at e1
 rw [b2, b4, e1] at e2
 exact congrArg Prod.fst e2
end Go.Proofs.YtplieiecebljmaaGreat
namespace Go.Proofs.YtplieiecebljmaaGreat
open Go Gx
def crcBit (n : Nat) : Nat := if n % 2 = 1 then (n / 2) ^^^ 0x82f63b78 else n / 2
def crcBits : Nat → Nat → Nat
 | 0, n => n
 | k + 1, n => crcBit (crcBits k n)
def crcByte (n : Nat) (c : UInt8) : Nat := crcBits 8 (n ^^^ c.toNat)
def crcL (n : Nat) (l : List UInt8) : Nat := l.foldl crcByte n
def crcOf (l : List UInt8) : Nat := 4294967295 - crcL 4294967295 l
theorem crcBit_lt {n : Nat} (h : n < 4294967296) : crcBit n < 4294967296 := by
 unfold crcBit
 split
 · exact Nat.xor_lt_two_pow (n := 32) (by show _ < 4294967296; omega) (by decide)
 · omega
theorem crcBits_lt {n : Nat} (h : n < 4294967296) : ∀ k, crcBits k n < 4294967296
 | 0 => h
 | k + 1 => crcBit_lt (crcBits_lt h k)
theorem crcByte_lt {n : Nat} (h : n < 4294967296) (c : UInt8) : crcByte n c < 4294967296 :=
 crcBits_lt (Nat.xor_lt_two_pow (n := 32) h (by have := UInt8.toNat_lt c; show _ < 4294967296; omega)) 8
theorem crcL_lt : ∀ (l : List UInt8) {n : Nat}, n < 4294967296 → crcL n l < 4294967296
 | [], _, h => h
 | c :: l, _, h => crcL_lt l (crcByte_lt h c)
theorem crcL_app (n : Nat) (a b : List UInt8) : crcL n (a ++ b) = crcL (crcL n a) b := by simp [crcL, List.foldl_append]
theorem crcOf_lt (l : List UInt8) : crcOf l < 4294967296 := by unfold crcOf; omega
structure Pg where
 kind : Nat
 gen : Nat
 body : List UInt8
 deriving DecidableEq
structure PgOk (p : Pg) : Prop where
 k1 : 1 ≤ p.kind
 k2 : p.kind ≤ 4
 gen : p.gen < 18446744073709551616
 body : p.body.length ≤ 232
def magicB : List UInt8 := [83, 84, 78, 67]
def headB (no : Nat) (p : Pg) : List UInt8 := magicB ++ ([1, UInt8.ofNat p.kind] ++ (beB p.body.length 2 ++ (beB no 4 ++ beB p.gen 8)))
def tailBy (p : Pg) : List UInt8 := p.body ++ List.replicate (232 - p.body.length) 0
def pageB (no : Nat) (p : Pg) : List UInt8 := headB no p ++ (beB (crcOf (headB no p ++ tailBy p)) 4 ++ tailBy p)
theorem headB_length (no : Nat) (p : Pg) : (headB no p).length = 20 := by simp [headB, magicB, beB_length]
theorem tailBy_length {p : Pg} (h : PgOk p) : (tailBy p).length = 232 := by
 have := h.body
 simp [tailBy]; omega
theorem pageB_length {p : Pg} (no : Nat) (h : PgOk p) : (pageB no p).length = 256 := by simp [pageB, headB_length, beB_length, tailBy_length h]
def sumOf (l : List UInt8) : Nat := crcOf (l.take 20 ++ l.drop 24)
def numAt (l : List UInt8) (a k : Nat) : Nat := beN ((l.drop a).take k)
def pgDec (no : Int) (l : List UInt8) : Except Int Pg :=
 if l.length ≠ 256 then .error 9
 else if l.take 4 ≠ magicB then .error 4
 else if l.getD 4 0 ≠ 1 then .error 12
 else if sumOf l ≠ numAt l 20 4 then .error 5
 else if ¬ (1 ≤ (l.getD 5 0).toNat ∧ (l.getD 5 0).toNat ≤ 4) ∨ 232 < numAt l 6 2 ∨ (l.drop (24 + numAt l 6 2)).all (fun c => c == 0) = false then .error 4
 else if ¬ (0 ≤ no ∧ no < 1600) ∨ (numAt l 8 4 : Int) ≠ no then .error 1
 else .ok ⟨(l.getD 5 0).toNat, numAt l 12 8, (l.drop 24).take (numAt l 6 2)⟩
theorem drop_left' {α : Type} {a b : List α} {n : Nat} (h : a.length = n) : (a ++ b).drop n = b := by subst h; exact List.drop_left
theorem take_left2 {α : Type} {a b : List α} {n : Nat} (h : a.length = n) : (a ++ b).take n = a := by subst h; exact List.take_left
theorem numAt_app {a b : List UInt8} {n k m : Nat} (ha : a.length = m) (h : n < 256 ^ k) : numAt (a ++ (beB n k ++ b)) m k = n := by
 unfold numAt
 rw [drop_left' ha, take_left2 (beB_length n k), beN_beB k n h]
theorem pgDec_pageB {no : Nat} {p : Pg} (hno : no < 1600) (h : PgOk p) : pgDec no (pageB no p) = .ok p := by
 have hb := h.body
 have hk1 := h.k1
 have hk2 := h.k2
 have hg := h.gen
 have ht := tailBy_length h
 have hh := headB_length no p
 have hc := crcOf_lt (headB no p ++ tailBy p)
 have n1 : numAt (pageB no p) 20 4 = crcOf (headB no p ++ tailBy p) := numAt_app hh (by show _ < 4294967296; exact hc)
 have e2 : pageB no p = (magicB ++ [1, UInt8.ofNat p.kind]) ++ (beB p.body.length 2 ++ ((beB no 4 ++ beB p.gen 8) ++ (beB (crcOf (headB no p ++ tailBy p)) 4 ++ tailBy p))) := by
   show headB no p ++ _ = _
   rw [show headB no p = (magicB ++ [1, UInt8.ofNat p.kind]) ++ (beB p.body.length 2 ++ (beB no 4 ++ beB p.gen 8)) by simp [headB]]
   simp only [List.append_assoc]
 have n2 : numAt (pageB no p) 6 2 = p.body.length := by rw [e2]; exact numAt_app rfl (by show _ < 65536; omega)
 have e3 : pageB no p = ((magicB ++ [1, UInt8.ofNat p.kind]) ++ beB p.body.length 2) ++ (beB no 4 ++ (beB p.gen 8 ++ (beB (crcOf (headB no p ++ tailBy p)) 4 ++ tailBy p))) := by rw [e2]; simp only [List.append_assoc]
 have n3 : numAt (pageB no p) 8 4 = no := by rw [e3]; exact numAt_app (by simp [magicB, beB_length]) (by show _ < 4294967296; omega)
 have e4 : pageB no p = ((magicB ++ [1, UInt8.ofNat p.kind]) ++ (beB p.body.length 2 ++ beB no 4)) ++ (beB p.gen 8 ++ (beB (crcOf (headB no p ++ tailBy p)) 4 ++ tailBy p)) := by rw [e2]; simp only [List.append_assoc]
 have n4 : numAt (pageB no p) 12 8 = p.gen := by rw [e4]; exact numAt_app (by simp [magicB, beB_length]) (by show _ < 18446744073709551616; exact hg)
 have e5 : pageB no p = (headB no p ++ beB (crcOf (headB no p ++ tailBy p)) 4) ++ tailBy p := by simp [pageB]
 have l5 : (headB no p ++ beB (crcOf (headB no p ++ tailBy p)) 4).length = 24 := by simp [hh, beB_length]
 have d24 : (pageB no p).drop 24 = tailBy p := by rw [e5]; exact drop_left' l5
 have t4 : (pageB no p).take 4 = magicB := by rw [e2]; rfl
 have g4 : (pageB no p).getD 4 0 = 1 := by rw [e2]; rfl
 have g5 : ((pageB no p).getD 5 0).toNat = p.kind := by rw [e2]; show (UInt8.ofNat p.kind).toNat = p.kind; exact ofNat_val (by omega)
 have s : sumOf (pageB no p) = crcOf (headB no p ++ tailBy p) := by
   unfold sumOf
   rw [d24, show (pageB no p).take 20 = headB no p from take_left2 hh]
 unfold pgDec
 rw [if_neg (by rw [pageB_length no h]; simp), if_neg (by rw [t4]; simp), if_neg (by rw [g4]; simp), if_neg (by rw [s, n1]; simp), if_neg (by
   rw [g5, n2]
   rintro (h1 | h1 | h1)
   · exact h1 ⟨hk1, hk2⟩
   · omega
   · rw [List.all_eq_false] at h1
     obtain ⟨c, hc, h1⟩ := h1
     rw [← List.drop_drop, d24] at hc
     unfold tailBy at hc
     rw [List.drop_left] at hc
     exact h1 (by rw [List.eq_of_mem_replicate hc]; rfl)), if_neg (by rw [n3]; rintro (h1 | h1) <;> omega), g5, n2, n4, d24]
 have : (tailBy p).take p.body.length = p.body := by unfold tailBy; exact List.take_left
 rw [this]
end Go.Proofs.YtplieiecebljmaaGreat
namespace Go.Proofs.YtplieiecebljmaaGreat
open Go Gx
def slv (s : Sl) : Value := .slice s.a s.len s.cap
abbrev Frs (w : World) (s : Sl) : Prop := ∀ k, ownB s k → w.heap.size ≤ k
theorem Frs.mono {w w' : World} {s : Sl} (h : Frs w' s) (hx : w.heap.size ≤ w'.heap.size) : Frs w s := fun k hk => Nat.le_trans hx (h k hk)
theorem len8 {w : World} {s : Sl} {l : List UInt8} (h : Src 1 w s (u8s l)) : s.len = l.length := by have := h.len; rw [u8s_length] at this; omega
theorem len8O {w : World} {T : TypeId} {s : Sl} {l : List UInt8} (h : OwnS 1 T w s (u8s l)) : s.len = l.length := by have := h.1; rw [u8s_length] at this; omega
theorem sub8 {w : World} {s : Sl} {l : List UInt8} {lo hi : Nat} (h : Src 1 w s (u8s l)) (hc : s.len ≤ s.cap) (h1 : lo ≤ hi) (h2 : hi ≤ s.len) : Src 1 w ⟨cutA s.a 1 lo s.cap, hi - lo, s.cap - lo⟩ (u8s ((l.drop lo).take (hi - lo))) := by
 have := Src.sub h hc h1 h2
 simpa [u8s, List.map_drop, List.map_take] using this
def flatP (ps : List (Sl × List UInt8)) : List UInt8 := (ps.map (·.2)).flatten
theorem flatP_snoc (a : List (Sl × List UInt8)) (p : Sl × List UInt8) : flatP (a ++ [p]) = flatP a ++ p.2 := by simp [flatP]
theorem flatP_take (ps : List (Sl × List UInt8)) (j : Nat) : (flatP (ps.take j)).length ≤ (flatP ps).length := by
 have h : ps = ps.take j ++ ps.drop j := (List.take_append_drop j ps).symm
 have : (flatP ps).length = (flatP (ps.take j)).length + (flatP (ps.drop j)).length := by
   conv => lhs; rw [h]
   unfold flatP
   rw [List.map_append, List.flatten_append, List.length_append]
 omega
theorem flatP_at (ps : List (Sl × List UInt8)) {j : Nat} (hj : j < ps.length) : (ps[j]).2.length ≤ (flatP ps).length := by
 have h : ps = ps.take j ++ ps[j] :: ps.drop (j + 1) := by rw [← List.drop_eq_getElem_cons hj, List.take_append_drop]
 have : (flatP ps).length = (flatP (ps.take j)).length + ((ps[j]).2.length + (flatP (ps.drop (j + 1))).length) := by
   conv => lhs; rw [h]
   unfold flatP
   rw [List.map_append, List.flatten_append, List.length_append, List.map_cons, List.flatten_cons, List.length_append]
 omega
theorem num_BytesL {s : Sl} {w : World} (ps : List (Sl × List UInt8)) (hs : Src 1 w s (ps.map fun p => slv p.1)) (hp : ∀ p ∈ ps, Src 1 w p.1 (u8s p.2)) (hl : (flatP ps).length ≤ 100000) (hn : ps.length ≤ 100000) :
   Ret Tryz.prog F.num_Bytes #[.slice s.a s.len s.cap] w (fun v w' => ∃ s' : Sl, v = .slice s'.a s'.len s'.cap ∧ OwnS 1 Ty.uint8 w' s' (u8s (flatP ps)) ∧ Ext w w' ∧ Frs w s') := by
 refine W.num_Bytes_ok s w _ ?_
 (delta W.num_Bytes Br bd r1 wI; dsimp only)
 have hsl : s.len = ps.length := by have := hs.len; rw [List.length_map] at this; omega
 refine ⟨fun s' i w' => ∃ j : Nat, i = j ∧ j ≤ ps.length ∧ OwnS 1 Ty.uint8 w' s' (u8s (flatP (ps.take j))) ∧ Ext w w' ∧ Frs w s', fun _ i _ => ((ps.length : Int) - i).toNat, ⟨0, rfl, Nat.zero_le _, OwnS.none 1 Ty.uint8 _, .refl _ _, fun k hk => (ownB_none k hk).elim⟩, ?_⟩
 rintro s' _ w1 ⟨j, rfl, hj, ho, hx, hf⟩
 refine ⟨fun hlt => ?_, fun hge => ?_⟩
 · have hlt : j < ps.length := by have := of_decide_eq_true hlt; omega
   obtain ⟨A, hA, hb, hcell⟩ := (hs.ext hx).at (i := j) (v := slv (ps[j]).1) (by simp [hlt])
   have hpj := (hp _ (List.getElem_mem hlt)).ext hx
   have h1 := flatP_at ps hlt
   have h2 := flatP_take ps j
   have h3 := len8 hpj
   have h4 := len8O ho
   obtain ⟨s2, w2, g1, g2, g3, g4, g5⟩ := appByte.append (oT := Ty.Sl_uint8) hpj ho (u8s_plain _) (by rw [h3, h4]; omega)
   rw [wrapi (n := (j : Int) + 1) (by omega) (by omega)]
   refine ⟨A, hA, hb, (ps[j]).1, hcell, s2, w2, g1, ⟨j + 1, by omega, by omega, ?_, Ext.of_new hx g4 hf, fun k hk => ?_⟩, ?_⟩
   · rw [take_succ _ hlt]
     rw [flatP_snoc, u8s_append]; exact g2
   · rcases g5 k hk with h | h
     · exact hf k h
     · exact Nat.le_trans hx.size h
   · show ((ps.length : Int) - ((j : Int) + 1)).toNat < ((ps.length : Int) - (j : Int)).toNat
     omega
 · have hge : j = ps.length := by have := of_decide_eq_false hge; omega
   subst hge
   rw [List.take_length] at ho
   exact ⟨s', rfl, ho, hx, hf⟩
theorem num_cut_in {s : Sl} {l : List UInt8} {w : World} (hs : Src 1 w s (u8s l)) (hc : s.len ≤ s.cap) {a k : Nat} (ha : a + k ≤ l.length) (hl : l.length ≤ 1000000000000) :
   Ret Tryz.prog F.num_cut #[.slice s.a s.len s.cap, .int .i64 a, .int .i64 k] w (fun v w' => v = .tuple #[.slice (cutA s.a 1 a s.cap) k (s.cap - a), .bool true] ∧ w = w') := by
 have hsl := len8 hs
 refine W.num_cut_ok s a k w _ ?_
 delta W.num_cut Br wI
 rw [wrapi (n := ((s.len : Nat) : Int) - (a : Int)) (by omega) (by omega), wrapi (n := (a : Int) + (k : Int)) (by omega) (by omega)]
 refine ⟨fun h => ?_, fun _ => ⟨⟨by omega, by omega⟩, ⟨by omega, by omega⟩, ?_, rfl⟩⟩
 · simp only [Bool.or_eq_true, decide_eq_true_eq] at h; omega
 · rw [show Int.toNat ((a : Int) + (k : Int)) - Int.toNat (a : Int) = k by omega]; rfl
theorem num_cut_out {s : Sl} {l : List UInt8} {w : World} (hs : Src 1 w s (u8s l)) {a k : Nat} (ha : l.length < a + k) (ha2 : a ≤ l.length) (hl : l.length ≤ 1000000000000) (hk : k ≤ 1000000000000) :
   Ret Tryz.prog F.num_cut #[.slice s.a s.len s.cap, .int .i64 a, .int .i64 k] w (fun v w' => v = .tuple #[.slice none 0 0, .bool false] ∧ w = w') := by
 have hsl := len8 hs
 refine W.num_cut_ok s a k w _ ?_
 delta W.num_cut Br wI
 rw [wrapi (n := ((s.len : Nat) : Int) - (a : Int)) (by omega) (by omega), wrapi (n := (a : Int) + (k : Int)) (by omega) (by omega)]
 have e : (((decide ((a : Int) < 0)) || (decide ((k : Int) < 0))) || (decide ((a : Int) > ((s.len : Nat) : Int)))  || (decide ((k : Int) > (((s.len : Nat) : Int) - (a : Int))))) = true := by
   simp only [Bool.or_eq_true, decide_eq_true_eq]; omega
 exact ⟨fun _ => ⟨rfl, rfl⟩, fun h => (by rw [e] at h; cases h)⟩
theorem num_Cut {s : Sl} {l : List UInt8} {w : World} (hs : Src 1 w s (u8s l)) (hc : s.len ≤ s.cap) {a k : Nat} (ha : a + k ≤ l.length) (hl : l.length ≤ 100000) :
   Ret Tryz.prog F.num_Cut #[.slice s.a s.len s.cap, .int .i64 a, .int .i64 k] w (fun v w' => ∃ s' : Sl, v = .tuple #[.slice s'.a s'.len s'.cap, .bool true] ∧ OwnS 1 Ty.uint8 w' s' (u8s ((l.drop a).take k)) ∧ Ext w w' ∧ Frs w s') := by
 have hsl := len8 hs
 refine W.num_Cut_ok s a k w _ ?_
 (delta W.num_Cut c15 c12; dsimp only)
 refine (num_cut_in hs hc ha (by omega)).use ?_
 rintro _ _ ⟨rfl, rfl⟩
 have hsub := sub8 hs hc (lo := a) (hi := a + k) (by omega) (by omega)
 rw [show a + k - a = k by omega] at hsub
 refine ⟨⟨cutA s.a 1 a s.cap, k, s.cap - a⟩, true, rfl, (clone8 hsub (by simp; omega)).use ?_⟩
 rintro _ w1 ⟨s', rfl, ho, hx, hf⟩
 exact ⟨s', rfl, s', rfl, ho, hx, hf⟩
theorem num_Get_out {s : Sl} {l : List UInt8} {w : World} (hs : Src 1 w s (u8s l)) {k : Nat} (hk : k ≤ 8) (ha : l.length < k) :
   Ret Tryz.prog F.num_Get #[.slice s.a s.len s.cap, .int .i64 (0 : Nat), .int .i64 k] w (fun v w' => v = .tuple #[.int .u64 0, .bool false] ∧ w = w') := by
 refine W.num_Get_ok s (0 : Nat) k w _ ?_
 (delta W.num_Get c15 Br c3 bd r4 wI; dsimp only)
 refine (num_cut_out hs (a := 0) (by omega) (by omega) (by omega) (by omega)).use ?_
 rintro _ _ ⟨rfl, rfl⟩
 refine ⟨⟨none, 0, 0⟩, false, rfl, Jn1 (fun b w' => b = true ∧ w = w') (fun q hq => ⟨fun _ => hq _ _ ⟨rfl, rfl⟩, fun h => by simp at h⟩) ?_⟩
 rintro _ _ ⟨rfl, rfl⟩
 exact ⟨fun _ => ⟨rfl, rfl⟩, fun h => by simp at h⟩
theorem bv32 {a : Nat} (ha : a < 4294967296) : (BitVec.ofInt 32 (a : Int)) = BitVec.ofNat 32 a := by simp
theorem bXor32 {a b : Nat} (ha : a < 4294967296) (hb : b < 4294967296) : bXor .u32 (a : Int) (b : Int) = ((a ^^^ b : Nat) : Int) := by
 unfold bXor
 show IntKind.u32.wrap (((BitVec.ofInt 32 (a : Int) ^^^ BitVec.ofInt 32 (b : Int)).toNat : Nat) : Int) = _
 rw [bv32 ha, bv32 hb, BitVec.toNat_xor, BitVec.toNat_ofNat, BitVec.toNat_ofNat, Nat.mod_eq_of_lt (by simpa using ha), Nat.mod_eq_of_lt (by simpa using hb)]
 have : a ^^^ b < 4294967296 := Nat.xor_lt_two_pow (n := 32) ha hb
 rw [wr32 (by omega) (by omega)]
theorem bAnd32 {a b : Nat} (ha : a < 4294967296) (hb : b < 4294967296) : bAnd .u32 (a : Int) (b : Int) = ((a &&& b : Nat) : Int) := by
 unfold bAnd
 show IntKind.u32.wrap (((BitVec.ofInt 32 (a : Int) &&& BitVec.ofInt 32 (b : Int)).toNat : Nat) : Int) = _
 rw [bv32 ha, bv32 hb, BitVec.toNat_and, BitVec.toNat_ofNat, BitVec.toNat_ofNat, Nat.mod_eq_of_lt (by simpa using ha), Nat.mod_eq_of_lt (by simpa using hb)]
 have : a &&& b ≤ a := Nat.and_le_left
 rw [wr32 (by omega) (by omega)]
theorem crc_step {n : Nat} (hn : n < 4294967296) :
   bXor .u32 (Int.fdiv (n : Int) (2 ^ (min (Int.toNat 1) 32))) (bAnd .u32 2197175160 (IntKind.wrap .u32 (0 - (bAnd .u32 (n : Int) 1)))) = ((crcBit n : Nat) : Int) := by
 have e1 : bAnd .u32 (n : Int) 1 = ((n % 2 : Nat) : Int) := by
   have := bAnd32 hn (show 1 < 4294967296 by omega)
   rw [Nat.and_one_is_mod] at this
   exact this
 have e2 : Int.fdiv (n : Int) (2 ^ (min (Int.toNat 1) 32)) = ((n / 2 : Nat) : Int) := by
   rw [Int.fdiv_eq_ediv_of_nonneg _ (by decide)]; rfl
 rw [e1, e2]
 unfold crcBit
 rcases Nat.mod_two_eq_zero_or_one n with h | h
 · rw [h, if_neg (by omega)]
   have e3 : bAnd .u32 2197175160 (IntKind.wrap .u32 (0 - ((0 : Nat) : Int))) = ((0 : Nat) : Int) := by decide +kernel
   rw [e3, bXor32 (by omega) (by omega), Nat.xor_zero]
 · rw [h, if_pos rfl]
   have e3 : bAnd .u32 2197175160 (IntKind.wrap .u32 (0 - ((1 : Nat) : Int))) = ((2197175160 : Nat) : Int) := by decide +kernel
   rw [e3, bXor32 (by omega) (by omega)]
theorem crc_more {s : Sl} {l : List UInt8} {w : World} {n : Nat} (hs : Src 1 w s (u8s l)) (hn : n < 4294967296) (hl : l.length ≤ 1000000) :
   Ret Tryz.prog F.crc_more #[.int .u32 n, .slice s.a s.len s.cap] w (fun v w' => v = .int .u32 (crcL n l : Nat) ∧ w = w') := by
 have hsl := len8 hs
 refine W.crc_more_ok n s w _ ?_
 (delta W.crc_more Br bd r4 wI; dsimp only)
 refine ⟨fun m i w' => ∃ j : Nat, i = j ∧ j ≤ l.length ∧ m = ((crcL n (l.take j) : Nat) : Int) ∧ w = w', fun _ i _ => ((l.length : Int) - i).toNat, ⟨0, rfl, Nat.zero_le _, rfl, rfl⟩, ?_⟩
 rintro _ _ _ ⟨j, rfl, hj, rfl, rfl⟩
 refine ⟨fun hlt => ?_, fun hge => ?_⟩
 · have hlt : j < l.length := by have := of_decide_eq_true hlt; omega
   obtain ⟨A, hA, hb, hcell⟩ := hs.at (u8s_get hlt)
   have hm := crcL_lt (l.take j) hn
   have hc := UInt8.toNat_lt (l[j])
   have hx := Nat.xor_lt_two_pow (n := 32) hm (show (l[j]).toNat < 4294967296 by omega)
   refine ⟨A, hA, hb, _, hcell, fun m i w' => ∃ k : Nat, i = k ∧ k ≤ 8 ∧ m = ((crcBits k (crcL n (l.take j) ^^^ (l[j]).toNat) : Nat) : Int) ∧ w = w', fun _ i _ => ((8 : Int) - i).toNat, ⟨0, rfl, by omega, ?_, rfl⟩, ?_⟩
   · rw [wr32 (by omega) (by omega), bXor32 hm (by omega)]; rfl
   rintro _ _ _ ⟨k, rfl, hk, rfl, rfl⟩
   refine ⟨fun hlt2 => ?_, fun hge2 => ?_⟩
   · have hlt2 : k < 8 := by have := of_decide_eq_true hlt2; omega
     rw [crc_step (crcBits_lt hx k), wrapi (n := (k : Int) + 1) (by omega) (by omega)]
     refine ⟨by decide, ⟨k + 1, by omega, by omega, rfl, rfl⟩, ?_⟩
     show ((8 : Int) - ((k : Int) + 1)).toNat < ((8 : Int) - (k : Int)).toNat
     omega
   · have hge2 : k = 8 := by have := of_decide_eq_false hge2; omega
     subst hge2
     rw [wrapi (n := (j : Int) + 1) (by omega) (by omega)]
     refine ⟨⟨j + 1, by omega, by omega, ?_, rfl⟩, ?_⟩
     · rw [take_succ _ hlt, crcL_app]; rfl
     · show ((l.length : Int) - ((j : Int) + 1)).toNat < ((l.length : Int) - (j : Int)).toNat
       omega
 · have hge : j = l.length := by have := of_decide_eq_false hge; omega
   subst hge
   rw [List.take_length]
   exact ⟨rfl, rfl⟩
theorem xor_ones {n : Nat} (h : n < 4294967296) : 4294967295 ^^^ n = 4294967295 - n := by
 apply Nat.eq_of_testBit_eq
 intro i
 have h1 : (4294967295 - n).testBit i = (decide (i < 32) && !n.testBit i) := by
   have := Nat.testBit_two_pow_sub_succ (n := 32) (x := n) (by simpa using h) i
   rw [← this]; congr 1; omega
 have h2 : (4294967295 : Nat).testBit i = decide (i < 32) := by
   have := Nat.testBit_two_pow_sub_one 32 i
   exact this
 rw [Nat.testBit_xor, h1, h2]
 by_cases hi : i < 32
 · simp [hi]
 · have : n.testBit i = false := by
     apply Nat.testBit_lt_two_pow
     exact Nat.lt_of_lt_of_le h (Nat.pow_le_pow_right (n := 2) (by omega) (show 32 ≤ i by omega))
   simp [hi, this]
theorem crc_PartsL {s : Sl} {w : World} (ps : List (Sl × List UInt8)) (hs : Src 1 w s (ps.map fun p => slv p.1)) (hp : ∀ p ∈ ps, Src 1 w p.1 (u8s p.2)) (hl : (flatP ps).length ≤ 100000) (hn : ps.length ≤ 100000) :
   Ret Tryz.prog F.crc_Parts #[.slice s.a s.len s.cap] w (fun v w' => v = .int .u32 (crcOf (flatP ps) : Nat) ∧ w = w') := by
 refine W.crc_Parts_ok s w _ ?_
 (delta W.crc_Parts Br bd r1 c13 wI; dsimp only)
 have hsl : s.len = ps.length := by have := hs.len; rw [List.length_map] at this; omega
 refine ⟨fun m i w' => ∃ j : Nat, i = j ∧ j ≤ ps.length ∧ m = ((crcL 4294967295 (flatP (ps.take j)) : Nat) : Int) ∧ w = w', fun _ i _ => ((ps.length : Int) - i).toNat, ⟨0, rfl, Nat.zero_le _, rfl, rfl⟩, ?_⟩
 rintro _ _ _ ⟨j, rfl, hj, rfl, rfl⟩
 refine ⟨fun hlt => ?_, fun hge => ?_⟩
 · have hlt : j < ps.length := by have := of_decide_eq_true hlt; omega
   obtain ⟨A, hA, hb, hcell⟩ := hs.at (i := j) (v := slv (ps[j]).1) (by simp [hlt])
   have hm := crcL_lt (flatP (ps.take j)) (n := 4294967295) (by decide)
   refine ⟨A, hA, hb, (ps[j]).1, hcell, (crc_more (hp _ (List.getElem_mem hlt)) hm (by have := flatP_at ps hlt; omega)).use ?_⟩
   rintro _ _ ⟨rfl, rfl⟩
   rw [wrapi (n := (j : Int) + 1) (by omega) (by omega)]
   refine ⟨_, rfl, ⟨j + 1, by omega, by omega, ?_, rfl⟩, ?_⟩
   · rw [take_succ _ hlt, ← crcL_app, flatP_snoc]
   · show ((ps.length : Int) - ((j : Int) + 1)).toNat < ((ps.length : Int) - (j : Int)).toNat
     omega
 · have hge : j = ps.length := by have := of_decide_eq_false hge; omega
   subst hge
   rw [List.take_length]
   have hm := crcL_lt (flatP ps) (n := 4294967295) (by decide)
   refine ⟨?_, rfl⟩
   have := bXor32 (a := 4294967295) (b := crcL 4294967295 (flatP ps)) (by decide) hm
   rw [xor_ones hm] at this
   exact congrArg _ this
theorem page_sum {s : Sl} {l : List UInt8} {w : World} (hs : Src 1 w s (u8s l)) (hc : s.len ≤ s.cap) (hl : l.length = 256) :
   Ret Tryz.prog F.page_sum #[.slice s.a s.len s.cap] w (fun v w' => v = .int .u32 (sumOf l : Nat) ∧ Ext w w') := by
 have hsl := len8 hs
 refine W.page_sum_ok s w _ ?_
 (delta W.page_sum Nx c13 nA; dsimp only)
 have hx1 : Ext w w.drew := Chg.drew (.refl _ _)
 refine ⟨⟨by decide, by omega⟩, ⟨by decide, by omega⟩, ?_⟩
 have h1 := sub8 (hs.ext hx1) hc (lo := 0) (hi := 20) (by omega) (by omega)
 have h2 := sub8 (hs.ext hx1) hc (lo := 24) (hi := s.len) (by omega) (by omega)
 have hx2 : ∀ o, Ext w.drew (w.drew.alloc o) := fun o => Chg.alloc (.refl _ _) o
 refine (crc_PartsL [(⟨cutA s.a 1 0 s.cap, 20 - 0, s.cap - 0⟩, (l.drop 0).take (20 - 0)), (⟨cutA s.a 1 24 s.cap, s.len - 24, s.cap - 24⟩, (l.drop 24).take (s.len - 24))] (s := ⟨some ⟨w.drew.heap.size, 0, none⟩, 2, 2⟩) (Src.new w.drew _ 2 rfl) ?_ ?_ ?_).use ?_
 · intro p hp
   simp only [List.mem_cons, List.not_mem_nil, or_false] at hp
   rcases hp with rfl | rfl
   · exact h1.ext (hx2 _)
   · exact h2.ext (hx2 _)
 · simp [flatP]; omega
 · simp
 rintro _ w1 ⟨rfl, rfl⟩
 refine ⟨_, rfl, ?_, hx1.trans (hx2 _)⟩
 have : flatP [((⟨cutA s.a 1 0 s.cap, 20 - 0, s.cap - 0⟩ : Sl), (l.drop 0).take (20 - 0)), (⟨cutA s.a 1 24 s.cap, s.len - 24, s.cap - 24⟩, (l.drop 24).take (s.len - 24))] = l.take 20 ++ l.drop 24 := by
   simp only [flatP, List.map_cons, List.map_nil, List.flatten_cons, List.flatten_nil, List.append_nil, List.drop_zero]
   rw [List.take_of_length_le (l := l.drop 24) (by rw [List.length_drop]; omega)]
 rw [this]; rfl
end Go.Proofs.YtplieiecebljmaaGreat
namespace Go.Proofs.YtplieiecebljmaaGreat
open Go Gx
theorem OwnS.over {T : TypeId} {w : World} {s : Sl} {vs us : List Value} {b o : Nat} (h : OwnS 1 T w s vs) (hb : s.a = some ⟨b, 0, none⟩) (ho : o + us.length ≤ s.len) :
   OwnS 1 T (setCells w ⟨b, o, none⟩ 0 us) s (vs.take o ++ us ++ vs.drop (o + us.length)) := by
 obtain ⟨h1, h2, h3, h4⟩ := h
 rcases h4 with ⟨hn, _⟩ | ⟨b', c, hb', hblk, hcs, ht⟩
 · rw [hn] at hb; cases hb
 · rw [hb] at hb'
   cases hb'
   have hcl : c.toList.length = s.cap := by simpa using hcs
   have hle : o + us.length ≤ c.size := by omega
   rw [Nat.mul_one] at h1 hcs
   refine ⟨by simp; omega, h2, h3, .inr ⟨b, _, hb, Blk.set0 hblk us, by rw [spl_size]; omega, ?_⟩⟩
   rw [Nat.mul_one] at ht ⊢
   rw [toList_spl _ _ _ hle, ← ht, List.take_take, Nat.min_eq_left (by omega), List.append_assoc, List.append_assoc, List.take_append, List.take_append, List.length_take, Nat.min_eq_left (by omega),
     List.take_of_length_le (l := c.toList.take o) (by rw [List.length_take]; omega), List.take_of_length_le (l := us) (by omega), List.drop_take, show s.len - o - us.length = s.len - (o + us.length) by omega]
theorem constB (w : World) (l : List UInt8) :
   ∃ w', Sem.run Tryz.prog (convert Ty.Sl_uint8 Ty.Sl_uint8 (.slice (some ⟨w.heap.size, 0, none⟩) l.length l.length)) (w.alloc (.cells (u8s l).toArray Ty.uint8)) = .ok (.slice (some ⟨w.heap.size, 0, none⟩) l.length l.length) w' ∧
     Src 1 w' ⟨some ⟨w.heap.size, 0, none⟩, l.length, l.length⟩ (u8s l) ∧ Ext w w' ∧ w'.heap.size = w.heap.size + 1 := by
 refine ⟨_, Go.Lib.run_convert_bytes_const (P := Tryz.prog) w Ty.Sl_uint8 Ty.uint8 (u8s l).toArray l.length l.length (by kernel_rfl) (by kernel_rfl), ⟨by rw [u8s_length, Nat.mul_one], (fun h => by cases h), fun a ha => ?_⟩, Chg.alloc (.refl _ _) _, by simp⟩
 cases ha
 have := rdCells_of (w := w.alloc (.cells (u8s l).toArray Ty.uint8 ((u8s l).toArray.size, (u8s l).toArray.size + 1))) (A := ⟨w.heap.size, 0, none⟩) (u8s l) 0 (fun j v hj => by
   rw [add_mk]
   show (World.cell? _ _) = _
   have : (w.alloc (.cells (u8s l).toArray Ty.uint8 ((u8s l).toArray.size, (u8s l).toArray.size + 1))).heap[w.heap.size]? = some (.cells (u8s l).toArray Ty.uint8 ((u8s l).toArray.size, (u8s l).toArray.size + 1)) := by
     show (w.heap.push _)[w.heap.size]? = _
     simp
   simp only [World.cell?, this]
   simpa using hj)
 rw [u8s_length] at this
 rw [Nat.mul_one]
 exact this
theorem zrow8 (n : Nat) : zrow Tryz.prog Ty.uint8 n = (u8s (List.replicate n 0)).toArray := by
 rw [zrow_of (v := .int .u8 0) (by kernel_rfl) (by kernel_rfl)]
 simp [u8s]
theorem lay4 {A Z T C : List UInt8} {n m : Nat} (hA : A.length = n) (hZ : Z.length = m) : (u8s (A ++ (Z ++ T))).take n ++ u8s C ++ (u8s (A ++ (Z ++ T))).drop (n + m) = u8s (A ++ (C ++ T)) := by
 have e1 : (u8s (A ++ (Z ++ T))).take n = u8s A := by rw [u8s_append]; exact take_left2 (by rw [u8s_length, hA])
 have e2 : (u8s (A ++ (Z ++ T))).drop (n + m) = u8s T := by rw [← List.append_assoc, u8s_append]; exact drop_left' (by rw [u8s_length, List.length_append, hA, hZ])
 rw [e1, e2, u8s_append, u8s_append, List.append_assoc]
theorem ext_drew (w : World) : Ext w w.drew := Chg.drew (.refl _ _)
theorem ext_alloc (w : World) (o : Obj) : Ext w (w.alloc o) := Chg.alloc (.refl _ _) o
theorem alloc_size (w : World) (o : Obj) : (w.alloc o).heap.size = w.heap.size + 1 := by simp
theorem page_Encode_in {s : Sl} {p : Pg} {no : Nat} {w : World} (hs : Src 1 w s (u8s p.body)) (hno : no < 1600) (hp : PgOk p) :
   Ret Tryz.prog F.page_Encode #[.int .i64 no, .agg #[.int .i64 p.kind, .int .u64 p.gen, .slice s.a s.len s.cap]] w (fun v w' => ∃ s' : Sl, v = .tuple #[.slice s'.a s'.len s'.cap, .int .i64 0] ∧ OwnS 1 Ty.uint8 w' s' (u8s (pageB no p)) ∧ Ext w w' ∧ Frs w s') := by
 have hk1 := hp.k1
 have hk2 := hp.k2
 have hgn := hp.gen
 have hbl := hp.body
 have hsl := len8 hs
 refine W.page_Encode_ok no p.kind p.gen s w _ ?_
 (delta W.page_Encode c3 Br r2 nA r1 c12 r5 mI T15 wI T16 c13; dsimp only)
 refine nxVar (vs := [.int .i64 p.kind, .int .u64 p.gen, .slice s.a s.len s.cap]) rfl fun w1 hv hx1 hz1 => ?_
 have c2 : ∀ {w' : World}, Ext w1 w' → w'.cell? (Addr.add ⟨w.heap.size, 0, none⟩ 2) = some (.slice s.a s.len s.cap) := fun hx => by rw [add_mk]; exact (hv.ext hx).cell
 have c1 : ∀ {w' : World}, Ext w1 w' → w'.cell? (Addr.add ⟨w.heap.size, 0, none⟩ 1) = some (.int .u64 p.gen) := fun hx => by rw [add_mk]; exact (hv.ext hx).cell
 refine Calls.mono (W.page_has_ok no w1 (fun v w' => v = .bool true ∧ w1 = w') ⟨by simp; omega, rfl⟩) ?_
 rintro _ _ ⟨_, rfl, rfl, rfl⟩
 refine ⟨_, rfl, Jn1 (fun b w' => b = false ∧ w1 = w') (fun q hq => ⟨fun h1 => by simp at h1, fun h1 => ⟨p.kind, hv.cell, ?_⟩⟩) ?_⟩
 · refine Calls.mono (W.page_kind_ok p.kind w1 (fun v w' => v = .bool true ∧ w1 = w') ⟨by simp; omega, rfl⟩) ?_
   rintro _ _ ⟨_, rfl, rfl, rfl⟩
   exact ⟨_, rfl, hq _ _ ⟨rfl, rfl⟩⟩
 rintro b _ ⟨rfl, rfl⟩
 refine ⟨fun h => (by cases h), fun _ => ⟨s, c2 (.refl _ _), fun h => (by have := of_decide_eq_true h; omega), fun _ => nx ?_⟩⟩
 -- the head
 obtain ⟨w2, hrun, hm, hxm, hz2⟩ := constB w1 magicB
 refine ⟨⟨some ⟨w1.heap.size, 0, none⟩, 4, 4⟩, w2, hrun, p.kind, (hv.ext hxm).cell, ?_⟩
 have ek : IntKind.wrap .u8 (p.kind : Int) = (((UInt8.ofNat p.kind).toNat : Nat) : Int) := by rw [ofNat_val (by omega), wr8 (by omega) (by omega)]
 rw [ek]
 have hk := Src.new (T := Ty.uint8) (sz := 1) w2 (u8s [1, UInt8.ofNat p.kind]) 2 rfl
 have hxk := ext_alloc w2 (.cells (u8s [1, UInt8.ofNat p.kind]).toArray Ty.uint8)
 obtain ⟨w3, hw3⟩ : ∃ w3, w3 = w2.alloc (.cells (u8s [1, UInt8.ofNat p.kind]).toArray Ty.uint8) := ⟨_, rfl⟩
 show Nx (w2.alloc (.cells (u8s [1, UInt8.ofNat p.kind]).toArray Ty.uint8)) _
 rw [← hw3] at hk hxk ⊢
 refine nx ?_
 have hps := Src.new (T := Ty.Sl_uint8) (sz := 1) w3 [.slice (some ⟨w1.heap.size, 0, none⟩) 4 4, .slice (some ⟨w2.heap.size, 0, none⟩) 2 2] 2 rfl
 have hxp := ext_alloc w3 (.cells #[.slice (some ⟨w1.heap.size, 0, none⟩) 4 4, .slice (some ⟨w2.heap.size, 0, none⟩) 2 2] Ty.Sl_uint8)
 obtain ⟨w4, hw4⟩ : ∃ w4, w4 = w3.alloc (.cells #[.slice (some ⟨w1.heap.size, 0, none⟩) 4 4, .slice (some ⟨w2.heap.size, 0, none⟩) 2 2] Ty.Sl_uint8) := ⟨_, rfl⟩
 have hps : Src 1 w4 ⟨some ⟨w3.heap.size, 0, none⟩, 2, 2⟩ [.slice (some ⟨w1.heap.size, 0, none⟩) 4 4, .slice (some ⟨w2.heap.size, 0, none⟩) 2 2] := by rw [hw4]; exact hps
 rw [← hw4] at hxp ⊢
 have hX4 : Ext w1 w4 := hxm.trans (hxk.trans hxp)
 refine nx ((num_BytesL (s := ⟨some ⟨w3.heap.size, 0, none⟩, 2, 2⟩) [((⟨some ⟨w1.heap.size, 0, none⟩, 4, 4⟩ : Sl), magicB), (⟨some ⟨w2.heap.size, 0, none⟩, 2, 2⟩, [1, UInt8.ofNat p.kind])] hps ?_ (by simp [flatP, magicB]) (by simp)).use ?_)
 · intro q hq
   simp only [List.mem_cons, List.not_mem_nil, or_false] at hq
   rcases hq with rfl | rfl
   · exact hm.ext (hxk.trans hxp)
   · exact hk.ext hxp
 rintro _ w5 ⟨s5, rfl, ho5, hx5, hf5⟩
 have hX5 := hX4.trans hx5
 have e5 : flatP [((⟨some ⟨w1.heap.size, 0, none⟩, 4, 4⟩ : Sl), magicB), (⟨some ⟨w2.heap.size, 0, none⟩, 2, 2⟩, [1, UInt8.ofNat p.kind])] = magicB ++ [1, UInt8.ofNat p.kind] := by simp [flatP]
 rw [e5] at ho5
 refine ⟨s5, rfl, s, c2 hX5, ?_⟩
 rw [wr64 (n := ((s.len : Nat) : Int)) (by omega) (by omega), wr64 (n := (no : Int)) (by omega) (by omega)]
 refine (num_Put ho5.src (n := s.len) (k := 2) (by simp [magicB]) (by show _ < 18446744073709551616; omega) ⟨by decide, by decide⟩).use ?_
 rintro _ w6 ⟨s6, rfl, ho6, hx6, hf6⟩
 have hX6 := hX5.trans hx6
 refine ⟨s6, rfl, (num_Put ho6.src (n := no) (k := 4) (by simp [magicB, beB_length]) (by show _ < 18446744073709551616; omega) ⟨by decide, by decide⟩).use ?_⟩
 rintro _ w7 ⟨s7, rfl, ho7, hx7, hf7⟩
 have hX7 := hX6.trans hx7
 refine ⟨s7, rfl, _, c1 hX7, (num_Put ho7.src (n := p.gen) (k := 8) (by simp [magicB, beB_length]) (by show _ < 18446744073709551616; omega) ⟨by decide, by decide⟩).use ?_⟩
 rintro _ w8 ⟨s8, rfl, ho8, hx8, hf8⟩
 have hX8 := hX7.trans hx8
 have e8 : magicB ++ [1, UInt8.ofNat p.kind] ++ beB s.len 2 ++ beB no 4 ++ beB p.gen 8 = headB no p := by rw [hsl]; simp [headB]
 rw [e8] at ho8
 refine ⟨s8, rfl, Jn1 (fun t w' => OwnS 1 Ty.uint8 w' t (u8s (headB no p ++ (List.replicate 4 0 ++ tailBy p))) ∧ Ext w1 w' ∧ Frs w t) (fun q hq => ?_) ?_⟩
 · have hxd := ext_drew w8
   have hXd := hX8.trans hxd
   have e9 : IntKind.wrap .i64 (232 - ((s.len : Nat) : Int)) = ((232 - s.len : Nat) : Int) := by rw [wrapi (by omega) (by omega)]; omega
   refine nx ⟨fun _ => False, id, s, c2 hXd, id, s, c2 hXd, ?_⟩
   rw [e9]
   simp only [Int.toNat_natCast, show Int.toNat 4 = 4 from rfl]
   rw [zrow8, zrow8]
   have fin : ∀ (w9 wz : World) (z1 z2 : Sl), Ext w8 wz → Src 1 wz z1 (u8s (List.replicate 4 0)) → Src 1 wz z2 (u8s (List.replicate (232 - s.len) 0)) →
       Calls Tryz.prog F.num_Bytes #[.slice (some ⟨wz.heap.size, 0, none⟩) 4 4] (wz.alloc (.cells #[.slice s8.a s8.len s8.cap, .slice z1.a z1.len z1.cap, .slice s.a s.len s.cap, .slice z2.a z2.len z2.cap] Ty.Sl_uint8)) fun e42 w41 => ∃ s43 : Sl, e42 = .returned (.slice s43.a s43.len s43.cap) ∧ q s43 w41 := by
     intro w9 wz z1 z2 hxz h1 h2
     have hxa := ext_alloc wz (.cells #[.slice s8.a s8.len s8.cap, .slice z1.a z1.len z1.cap, .slice s.a s.len s.cap, .slice z2.a z2.len z2.cap] Ty.Sl_uint8)
     refine (num_BytesL (s := ⟨some ⟨wz.heap.size, 0, none⟩, 4, 4⟩) [(s8, headB no p), (z1, List.replicate 4 0), (s, p.body), (z2, List.replicate (232 - s.len) 0)] (Src.new wz _ 4 rfl) ?_ (by simp [flatP, headB_length]; omega) (by simp)).use ?_
     · intro x hx
       simp only [List.mem_cons, List.not_mem_nil, or_false] at hx
       rcases hx with rfl | rfl | rfl | rfl
       · exact ho8.src.ext (hxz.trans hxa)
       · exact h1.ext hxa
       · exact hs.ext ((hx1.trans (hX8.trans hxz)).trans hxa)
       · exact h2.ext hxa
     · rintro _ w10 ⟨s10, rfl, ho, hx, hf⟩
       refine ⟨s10, rfl, hq _ _ ⟨?_, (hX8.trans hxz).trans (hxa.trans hx), hf.mono (hx1.trans ((hX8.trans hxz).trans hxa)).size⟩⟩
       have e : flatP [(s8, headB no p), (z1, List.replicate 4 0), (s, p.body), (z2, List.replicate (232 - s.len) 0)] = headB no p ++ (List.replicate 4 0 ++ tailBy p) := by simp [flatP, tailBy, hsl]
       rwa [e] at ho
   refine ⟨⟨⟨by decide, by decide, by decide, by decide⟩, nx ⟨ext_alloc _ _, ⟨by omega, Int.le_refl _, by omega, by omega⟩, nx ⟨ext_alloc _ _, nx ?_⟩⟩⟩, ⟨⟨by omega, Int.le_refl _, by omega, by omega⟩, nx ⟨ext_alloc _ _, ⟨by decide, by decide, by decide, by decide⟩, nx ⟨ext_alloc _ _, nx ?_⟩⟩⟩⟩
   · refine fin w8 _ ⟨some ⟨w8.drew.heap.size, 0, none⟩, 4, 4⟩ ⟨some ⟨(w8.drew.alloc _).heap.size, 0, none⟩, 232 - s.len, 232 - s.len⟩ (hxd.trans ((ext_alloc _ _).trans (ext_alloc _ _))) (Src.ext (Src.new _ _ _ (by simp [u8s])) (ext_alloc _ _)) (Src.new _ _ _ (by simp [u8s]))
   · refine fin w8 _ ⟨some ⟨(w8.drew.alloc _).heap.size, 0, none⟩, 4, 4⟩ ⟨some ⟨w8.drew.heap.size, 0, none⟩, 232 - s.len, 232 - s.len⟩ (hxd.trans ((ext_alloc _ _).trans (ext_alloc _ _))) (Src.new _ _ _ (by simp [u8s])) (Src.ext (Src.new _ _ _ (by simp [u8s])) (ext_alloc _ _))
 rintro t w9 ⟨ho9, hX9, hf9⟩
 have htl : t.len = 256 := by
   have := len8O ho9
   rw [this]; simp [headB_length, tailBy_length hp]
 have hxd := ext_drew w9
 refine nx ⟨fun _ => False, ⟨by decide, by omega⟩, (page_sum (ho9.src.ext hxd) ho9.2.1 (by simp [headB_length, tailBy_length hp])).use ?_⟩
 rintro _ w10 ⟨rfl, hx10⟩
 have es : sumOf (headB no p ++ (List.replicate 4 0 ++ tailBy p)) = crcOf (headB no p ++ tailBy p) := by
   unfold sumOf
   rw [take_left2 (headB_length no p), ← List.append_assoc, drop_left' (by simp [headB_length])]
 rw [es]
 have hcl := crcOf_lt (headB no p ++ tailBy p)
 refine ⟨_, rfl, fun _ => False, ?_⟩
 rw [wr64 (by omega) (by omega)]
 refine (num_Put (s := ⟨none, 0, 0⟩) (l := []) (n := crcOf (headB no p ++ tailBy p)) (k := 4) (OwnS.none 1 Ty.uint8 w10).src (by simp) (by show _ < 18446744073709551616; omega) ⟨by decide, by decide⟩).use ?_
 rintro _ w11 ⟨s11, rfl, ho11, hx11, hf11⟩
 rw [List.nil_append] at ho11
 have hxx := hxd.trans (hx10.trans hx11)
 have ho9' := ho9.ext hxx
 have hl11 := len8O ho11
 rw [beB_length] at hl11
 obtain ⟨b, c, hb, hblk, hcs, _⟩ : ∃ b c, t.a = some ⟨b, 0, none⟩ ∧ Blk w11 b c Ty.uint8 ∧ c.size = t.cap * 1 ∧ c.toList.take (t.len * 1) = u8s (headB no p ++ (List.replicate 4 0 ++ tailBy p)) := by
   rcases ho9'.2.2.2 with ⟨_, hc⟩ | ⟨b, c, h1, h2, h3, h4⟩
   · have := ho9.2.1; omega
   · exact ⟨b, c, h1, h2, h3, h4⟩
 have hct : cutA t.a 1 (Int.toNat 20) t.cap = some ⟨b, 20, none⟩ := by
   rw [hb, show Int.toNat 20 = 20 from rfl, cut_some (by have := ho9.2.1; omega)]
 have htc := ho9.2.1
 refine ⟨s11, rfl, _, _, by rw [hct]; exact run_copy_sl (by kernel_rfl) ho11.src (by rw [hl11]; show 4 ≤ t.len - 20; omega) (hblk.storeOk _ _ (by rw [u8s_length, beB_length]; omega) (u8s_plain _)), t, rfl, ?_, ?_, hf9⟩
 · have := OwnS.over ho9' hb (o := 20) (us := u8s (beB (crcOf (headB no p ++ tailBy p)) 4)) (by rw [u8s_length, beB_length]; omega)
   have e : (u8s (headB no p ++ (List.replicate 4 0 ++ tailBy p))).take 20 ++ u8s (beB (crcOf (headB no p ++ tailBy p)) 4) ++ (u8s (headB no p ++ (List.replicate 4 0 ++ tailBy p))).drop (20 + (u8s (beB (crcOf (headB no p ++ tailBy p)) 4)).length) = u8s (pageB no p) := by
     rw [u8s_length, beB_length]
     exact lay4 (headB_length no p) (by simp)
   rwa [e] at this
 · refine Ext.of_new (hx1.trans (hX9.trans hxx)) (Chg.setsB (.refl _ _) _ 0) fun k hk => ?_
   subst hk
   exact hf9 _ ⟨_, hb, rfl⟩
end Go.Proofs.YtplieiecebljmaaGreat
namespace Go.Proofs.YtplieiecebljmaaGreat
open Go Gx
theorem page_number {s : Sl} {l : List UInt8} {w : World} (hs : Src 1 w s (u8s l)) (hc : s.len ≤ s.cap) {a k : Nat} {e : Int} (he : e = ((a + k : Nat) : Int)) (hk : 1 ≤ k ∧ k ≤ 8) (ha : a + k ≤ l.length) (hl : l.length ≤ 1000) :
   Ret Tryz.prog F.page_number #[.slice s.a s.len s.cap, .int .i64 a, .int .i64 e] w (fun v w' => v = .int .u64 (numAt l a k : Nat) ∧ w = w') := by
 subst he
 refine W.page_number_ok s a ((a + k : Nat) : Int) w _ ?_
 (delta W.page_number c18 wI; dsimp only)
 rw [wrapi (by omega) (by omega), show (((a + k : Nat) : Int) - (a : Int)) = (k : Int) by omega]
 refine (num_Get hs hc hk ha (by omega)).use ?_
 rintro _ _ ⟨rfl, rfl⟩
 exact ⟨_, _, rfl, rfl, rfl⟩
theorem page_idle {s : Sl} {l : List UInt8} {w : World} (hs : Src 1 w s (u8s l)) (hl : l.length ≤ 1000) :
   Ret Tryz.prog F.page_idle #[.slice s.a s.len s.cap] w (fun v w' => v = .bool (l.all fun c => c == 0) ∧ w = w') := by
 have hsl := len8 hs
 refine W.page_idle_ok s w _ ?_
 (delta W.page_idle Br bd r4 wI; dsimp only)
 refine ⟨fun i w' => ∃ j : Nat, i = j ∧ j ≤ l.length ∧ w = w' ∧ ∀ (k : Nat) (hk : k < l.length), k < j → l[k] = 0, fun i _ => ((l.length : Int) - i).toNat, ⟨0, rfl, Nat.zero_le _, rfl, fun k hk h => by omega⟩, ?_⟩
 rintro _ _ ⟨j, rfl, hj, rfl, hall⟩
 refine ⟨fun hlt => ?_, fun hge => ?_⟩
 · have hlt : j < l.length := by have := of_decide_eq_true hlt; omega
   obtain ⟨A, hA, hb, hcell⟩ := hs.at (u8s_get hlt)
   refine ⟨A, hA, hb, _, hcell, fun hne => ?_, fun heq => ?_⟩
   · refine ⟨?_, rfl⟩
     have : (l.all fun c => c == 0) = false := by
       rw [List.all_eq_false]
       refine ⟨l[j], List.getElem_mem _, fun h => ?_⟩
       have h := eq_of_beq h
       rw [h] at hne
       simp at hne
     rw [this]
   · have h0 : l[j] = 0 := by
       have : (((l[j]).toNat : Nat) : Int) = 0 := by simpa using heq
       exact UInt8.toNat_inj.1 (by show (l[j]).toNat = 0; omega)
     rw [wrapi (n := (j : Int) + 1) (by omega) (by omega)]
     refine ⟨⟨j + 1, by omega, by omega, rfl, fun k hk h => ?_⟩, ?_⟩
     · rcases Nat.lt_or_ge k j with h1 | h1
       · exact hall k hk h1
       · have : k = j := by omega
         subst this; exact h0
     · show ((l.length : Int) - ((j : Int) + 1)).toNat < ((l.length : Int) - (j : Int)).toNat
       omega
 · have hge : j = l.length := by have := of_decide_eq_false hge; omega
   subst hge
   refine ⟨?_, rfl⟩
   have : (l.all fun c => c == 0) = true := by
     rw [List.all_eq_true]
     intro c hc
     obtain ⟨k, hk, rfl⟩ := List.getElem_of_mem hc
     rw [hall k hk hk]; rfl
   rw [this]
def pageV (kind gen : Int) (s : Sl) : Value := .agg #[.int .i64 kind, .int .u64 gen, .slice s.a s.len s.cap]
def DecV (r : Except Int Pg) (w w' : World) (v : Value) : Prop :=
 match r with
 | .ok p => ∃ s : Sl, v = .tuple #[pageV p.kind p.gen s, .int .i64 0] ∧ OwnS 1 Ty.uint8 w' s (u8s p.body) ∧ Frs w s
 | .error e => v = .tuple #[pageV 0 0 ⟨none, 0, 0⟩, .int .i64 e]
theorem retP {w' : World} {h : Nat} {vs : List Value} (n g : Int) (s : Sl) (hv : Var w' h vs Ty.api_Page) (hl : vs.length = 3) {K : Int → Int → Sl → World → Prop} (hK : ∀ w2, Chg (fun q => q = h) w' w2 → K n g s w2) :
   StoreOk w' ⟨h, 0, none⟩ [.int .i64 n, .int .u64 g, .slice s.a s.len s.cap] ∧ (3 : Nat) = 3 ∧ Nx (setCells w' ⟨h, 0, none⟩ 0 [.int .i64 n, .int .u64 g, .slice s.a s.len s.cap]) fun w2 =>
     ∃ n3 : Int, w2.cell? ⟨h, 0, none⟩ = some (.int .i64 n3) ∧ ∃ n4 : Int, w2.cell? (Addr.add ⟨h, 0, none⟩ 1) = some (.int .u64 n4) ∧ ∃ s5 : Sl, w2.cell? (Addr.add ⟨h, 0, none⟩ 2) = some (.slice s5.a s5.len s5.cap) ∧ K n3 n4 s5 w2 := by
 refine ⟨hv.storeOk (by rw [hl]; rfl) ?_, rfl, nxPut hv (us := [.int .i64 n, .int .u64 g, .slice s.a s.len s.cap]) (by rw [hl]; rfl) rfl fun w2 hv2 hc _ => ?_⟩
 · intro v hv
   simp only [List.mem_cons, List.not_mem_nil, or_false] at hv
   rcases hv with rfl | rfl | rfl <;> trivial
 · exact ⟨n, hv2.cell, g, by rw [add_mk]; exact hv2.cell, s, by rw [add_mk]; exact hv2.cell, hK w2 hc⟩
theorem page_Decode {s : Sl} {l : List UInt8} {w : World} (hs : Src 1 w s (u8s l)) (hc : s.len ≤ s.cap) (hl : l.length ≤ 1000) (no : Int) :
   Ret Tryz.prog F.page_Decode #[.int .i64 no, .slice s.a s.len s.cap] w (fun v w' => DecV (pgDec no l) w w' v ∧ Ext w w') := by
 have hsl := len8 hs
 refine W.page_Decode_ok no s w _ ?_
 (delta W.page_Decode z3 Br nA r2 r5 r1 T17 bd r4 c13 c14 c3 wI c15; dsimp only)
 refine nxVar (vs := [.int .i64 0, .int .u64 0, .slice none 0 0]) rfl fun w1 hv hx1 _ => ?_
 -- a way out
 have out : ∀ (w' : World) (e : Int), Ext w1 w' → pgDec no l = .error e →
     StoreOk w' ⟨w.heap.size, 0, none⟩ [.int .i64 0, .int .u64 0, .slice none 0 0] ∧ (3 : Nat) = 3 ∧ Nx (setCells w' ⟨w.heap.size, 0, none⟩ 0 [.int .i64 0, .int .u64 0, .slice none 0 0]) fun w2 =>
     ∃ n3 : Int, w2.cell? ⟨w.heap.size, 0, none⟩ = some (.int .i64 n3) ∧ ∃ n4 : Int, w2.cell? (Addr.add ⟨w.heap.size, 0, none⟩ 1) = some (.int .u64 n4) ∧ ∃ s5 : Sl, w2.cell? (Addr.add ⟨w.heap.size, 0, none⟩ 2) = some (.slice s5.a s5.len s5.cap) ∧
       (fun v w' => DecV (pgDec no l) w w' v ∧ Ext w w') (.tuple #[.agg #[.int .i64 n3, .int .u64 n4, .slice s5.a s5.len s5.cap], .int .i64 e]) w2 := by
   intro w' e hx he
   refine retP 0 0 ⟨none, 0, 0⟩ (hv.ext hx) rfl (K := fun n3 n4 s5 w2 => (fun v w' => DecV (pgDec no l) w w' v ∧ Ext w w') (.tuple #[.agg #[.int .i64 n3, .int .u64 n4, .slice s5.a s5.len s5.cap], .int .i64 e]) w2) fun w2 hch => ⟨?_, Ext.of_chg (hx1.trans hx) hch (Nat.le_refl _)⟩
   rw [he]; rfl
 refine ⟨fun h => out _ _ (.refl _ _) ?_, fun h => ?_⟩
 · have h : (s.len : Int) ≠ 256 := by simpa using h
   unfold pgDec
   rw [if_pos (by omega)]
 have h : (s.len : Int) = 256 := by simpa using h
 have h256 : l.length = 256 := by omega
 have hs1 := hs.ext hx1
 have hmag := sub8 hs1 hc (lo := 0) (hi := 4) (by omega) (by omega)
 have hmag' : Src 1 w1 ⟨cutA s.a 1 0 s.cap, 4 - 0, s.cap - 0⟩ (((l.take 4).map fun b => ((b.toNat : Nat) : Int)).map (.int .u8)) := by
   rw [List.map_map]; exact hmag
 have hconv := conv_byteS (src := Ty.Sl_uint8) (dst := Ty.string) (by kernel_rfl) (by kernel_rfl) hmag'
 have hS : (((l.take 4).map fun b => ((b.toNat : Nat) : Int)).map fun n => UInt8.ofNat n.toNat) = l.take 4 := by
   rw [List.map_map]
   have : ((fun n : Int => UInt8.ofNat n.toNat) ∘ fun b : UInt8 => ((b.toNat : Nat) : Int)) = id := by funext b; simp
   rw [this, List.map_id]
 rw [hS] at hconv
 refine ⟨⟨by decide, by omega⟩, S (l.take 4), w1, hconv, ?_⟩
 have hbe : (ByteArray.toList (S (l.take 4)) == ByteArray.toList (ByteArray.mk #[83, 84, 78, 67])) = decide (l.take 4 = magicB) := by
   rw [show (ByteArray.mk #[83, 84, 78, 67]) = S magicB from rfl, S_beq]
   rw [Bool.eq_iff_iff]; simp
 rw [hbe]
 refine ⟨fun h => out _ _ (.refl _ _) ?_, fun h => ?_⟩
 · have h : l.take 4 ≠ magicB := by simpa using h
   unfold pgDec
   rw [if_neg (by omega), if_pos h]
 have hm : l.take 4 = magicB := by simpa using h
 obtain ⟨A4, hA4, hb4, hc4⟩ := hs1.at (u8s_get (l := l) (i := 4) (by omega))
 have hsl4 : s.len = 256 := by omega
 refine ⟨A4, hA4, ⟨by decide, by omega⟩, _, hc4, fun h => out _ _ (.refl _ _) ?_, fun h => ?_⟩
 · have h : (((l[4]'(by omega)).toNat : Nat) : Int) ≠ 1 := by simpa using h
   unfold pgDec
   rw [if_neg (by omega), if_neg (by simp [hm]), if_pos (by
     intro e
     apply h
     rw [List.getD_eq_getElem?_getD, List.getElem?_eq_getElem (by omega)] at e
     have e : (l[4]'(by omega)) = 1 := e
     rw [e]; rfl)]
 have h4 : l.getD 4 0 = 1 := by
   have h : (((l[4]'(by omega)).toNat : Nat) : Int) = 1 := by simpa using h
   rw [List.getD_eq_getElem?_getD, List.getElem?_eq_getElem (by omega)]
   exact UInt8.toNat_inj.1 (by show (l[4]'(by omega)).toNat = 1; omega)
 refine (page_sum hs1 hc h256).use ?_
 rintro _ w2 ⟨rfl, hx2⟩
 have hs2 := hs1.ext hx2
 refine ⟨_, rfl, (page_number hs2 hc (a := 20) (k := 4) (e := 24) rfl (by decide) (by omega) hl).use ?_⟩
 rintro _ _ ⟨rfl, rfl⟩
 have hsum : sumOf l < 4294967296 := crcOf_lt _
 rw [wr64 (n := ((sumOf l : Nat) : Int)) (by omega) (by omega)]
 refine ⟨_, rfl, fun h => out _ _ hx2 ?_, fun h => ?_⟩
 · have h : ((sumOf l : Nat) : Int) ≠ ((numAt l 20 4 : Nat) : Int) := by simpa using h
   unfold pgDec
   rw [if_neg (by omega), if_neg (by simp [hm]), if_neg (fun h => h h4), if_pos (by omega)]
 have hsm : sumOf l = numAt l 20 4 := by
   have h : ((sumOf l : Nat) : Int) = ((numAt l 20 4 : Nat) : Int) := by simpa using h
   omega
 refine (page_number hs2 hc (a := 6) (k := 2) (e := 8) rfl (by decide) (by omega) hl).use ?_
 rintro _ _ ⟨rfl, rfl⟩
 have hn62 : numAt l 6 2 < 65536 := beN_lt 2 _ (by simp; omega)
 obtain ⟨A5, hA5, hb5, hc5⟩ := hs2.at (u8s_get (l := l) (i := 5) (by omega))
 have g5 : l.getD 5 0 = l[5]'(by omega) := by rw [List.getD_eq_getElem?_getD, List.getElem?_eq_getElem (by omega)]; rfl
 have hlt5 := UInt8.toNat_lt (l[5]'(by omega))
 refine ⟨_, rfl, A5, hA5, ⟨by decide, by omega⟩, _, hc5, ?_⟩
 rw [wrapi (n := (((l[5]'(by omega)).toNat : Nat) : Int)) (by omega) (by omega), wrapi (n := ((numAt l 6 2 : Nat) : Int)) (by omega) (by omega)]
 refine Calls.mono (W.page_kind_ok (((l[5]'(by omega)).toNat : Nat) : Int) w2 (fun v w' => v = .bool (decide (1 ≤ (l[5]'(by omega)).toNat ∧ (l[5]'(by omega)).toNat ≤ 4)) ∧ w2 = w') ⟨?_, rfl⟩) ?_
 · have e : (decide ((((l[5]'(by omega)).toNat : Nat) : Int) ≥ 1) && decide ((((l[5]'(by omega)).toNat : Nat) : Int) ≤ 4)) = decide (1 ≤ (l[5]'(by omega)).toNat ∧ (l[5]'(by omega)).toNat ≤ 4) := by
     rw [Bool.eq_iff_iff]
     simp only [Bool.and_eq_true, decide_eq_true_eq]
     omega
   rw [e]
 rintro _ _ ⟨_, rfl, rfl, rfl⟩
 have hrest : 24 + numAt l 6 2 ≤ 256 → True := fun _ => trivial
 refine ⟨_, rfl, Jn1 (fun b w' => b = decide (¬ (1 ≤ (l[5]'(by omega)).toNat ∧ (l[5]'(by omega)).toNat ≤ 4) ∨ 232 < numAt l 6 2 ∨ (l.drop (24 + numAt l 6 2)).all (fun c => c == 0) = false) ∧ w2 = w') (fun q hq => ⟨fun h1 => hq _ _ ⟨?_, rfl⟩, fun h1 => ?_⟩) ?_⟩
 · refine (decide_eq_true ?_).symm
   simp only [Bool.or_eq_true, Bool.not_eq_true', decide_eq_false_iff_not, decide_eq_true_eq] at h1
   rcases h1 with h1 | h1
   · exact .inl h1
   · exact .inr (.inl (by omega))
 · simp only [Bool.or_eq_false_iff, Bool.not_eq_false', decide_eq_false_iff_not, decide_eq_true_eq] at h1
   have hn232 : numAt l 6 2 ≤ 232 := by omega
   rw [wrapi (n := 24 + ((numAt l 6 2 : Nat) : Int)) (by omega) (by omega)]
   refine ⟨⟨by omega, by omega⟩, ?_⟩
   have et : Int.toNat (24 + ((numAt l 6 2 : Nat) : Int)) = 24 + numAt l 6 2 := by omega
   rw [et]
   have hsb := sub8 hs2 hc (lo := 24 + numAt l 6 2) (hi := s.len) (by omega) (by omega)
   rw [List.take_of_length_le (l := l.drop (24 + numAt l 6 2)) (by rw [List.length_drop]; omega)] at hsb
   refine (page_idle hsb (by rw [List.length_drop]; omega)).use ?_
   rintro _ _ ⟨rfl, rfl⟩
   refine ⟨_, rfl, hq _ _ ⟨?_, rfl⟩⟩
   cases hall : (l.drop (24 + numAt l 6 2)).all (fun c => c == 0) with
   | true => exact (decide_eq_false (by rintro (h2 | h2 | h2) <;> first | exact h2 h1.1 | omega | cases h2)).symm
   | false => exact (decide_eq_true (.inr (.inr rfl))).symm
 rintro b _ ⟨rfl, rfl⟩
 refine ⟨fun h => out _ _ hx2 ?_, fun h => ?_⟩
 · have h := of_decide_eq_true h
   unfold pgDec
   rw [if_neg (by omega), if_neg (by simp [hm]), if_neg (fun h => h h4), if_neg (by omega), if_pos (by rw [g5]; exact h)]
 have hk := of_decide_eq_false h
 have e5 : ¬ (¬ (1 ≤ (l.getD 5 0).toNat ∧ (l.getD 5 0).toNat ≤ 4) ∨ 232 < numAt l 6 2 ∨ (l.drop (24 + numAt l 6 2)).all (fun c => c == 0) = false) := by rw [g5]; exact hk
 have hn232 : numAt l 6 2 ≤ 232 := by
   rcases Nat.lt_or_ge 232 (numAt l 6 2) with h1 | h1
   · exact absurd (.inr (.inl h1)) hk
   · exact h1
 have hk5 : 1 ≤ (l[5]'(by omega)).toNat ∧ (l[5]'(by omega)).toNat ≤ 4 := Decidable.byContradiction fun h => hk (.inl h)
 refine Calls.mono (W.page_has_ok no w2 (fun v w' => v = .bool (decide (0 ≤ no ∧ no < 1600)) ∧ w2 = w') ⟨by simp [ge_iff_le], rfl⟩) ?_
 rintro _ _ ⟨_, rfl, rfl, rfl⟩
 have hn84 : numAt l 8 4 < 4294967296 := beN_lt 4 _ (by simp; omega)
 refine ⟨_, rfl, Jn1 (fun b w' => b = decide (¬ (0 ≤ no ∧ no < 1600) ∨ (numAt l 8 4 : Int) ≠ no) ∧ w2 = w') (fun q hq => ⟨fun h1 => hq _ _ ⟨?_, rfl⟩, fun h1 => ?_⟩) ?_⟩
 · refine (decide_eq_true ?_).symm
   simp only [Bool.not_eq_true', decide_eq_false_iff_not] at h1
   exact .inl h1
 · simp only [Bool.not_eq_false', decide_eq_true_eq] at h1
   refine (page_number hs2 hc (a := 8) (k := 4) (e := 12) rfl (by decide) (by omega) hl).use ?_
   rintro _ _ ⟨rfl, rfl⟩
   refine ⟨_, rfl, hq _ _ ⟨?_, rfl⟩⟩
   rw [wr64 (n := no) (by omega) (by omega), Bool.eq_iff_iff, decide_eq_true_eq, bne_iff_ne]
   exact ⟨fun h => .inr h, fun h => h.resolve_left (fun h2 => h2 h1)⟩
 rintro b _ ⟨rfl, rfl⟩
 refine ⟨fun h => out _ _ hx2 ?_, fun h => ?_⟩
 · have h := of_decide_eq_true h
   unfold pgDec
   rw [if_neg (by omega), if_neg (by simp [hm]), if_neg (fun h => h h4), if_neg (by omega), if_neg e5, if_pos h]
 have hnn := of_decide_eq_false h
 have hok : pgDec no l = .ok ⟨(l.getD 5 0).toNat, numAt l 12 8, (l.drop 24).take (numAt l 6 2)⟩ := by
   unfold pgDec
   rw [if_neg (by omega), if_neg (by simp [hm]), if_neg (fun h => h h4), if_neg (by omega), if_neg e5, if_neg hnn]
 refine (num_Cut hs2 hc (a := 24) (k := numAt l 6 2) (by omega) (by omega)).use ?_
 rintro _ w3 ⟨s3, rfl, ho3, hx3, hf3⟩
 have hxd := ext_drew w3
 have hX := hx2.trans (hx3.trans hxd)
 have hs3 := hs1.ext hX
 obtain ⟨A6, hA6, hb6, hc6⟩ := hs3.at (u8s_get (l := l) (i := 5) (by omega))
 refine ⟨s3, true, rfl, nx ⟨fun _ => False, A6, hA6, ⟨by decide, by omega⟩, id, _, hc6, (page_number hs3 hc (a := 12) (k := 8) (e := 20) rfl (by decide) (by omega) hl).use ?_⟩⟩
 rintro _ _ ⟨rfl, rfl⟩
 rw [wrapi (n := (((l[5]'(by omega)).toNat : Nat) : Int)) (by omega) (by omega)]
 refine ⟨_, rfl, .refl _ _, retP _ _ s3 (hv.ext hX) rfl (K := fun n3 n4 s5 w2 => (fun v w' => DecV (pgDec no l) w w' v ∧ Ext w w') (.tuple #[.agg #[.int .i64 n3, .int .u64 n4, .slice s5.a s5.len s5.cap], .int .i64 0]) w2) fun w4 hch => ⟨?_, Ext.of_chg (hx1.trans hX) hch (Nat.le_refl _)⟩⟩
 rw [hok]
 refine ⟨s3, by rw [g5]; rfl, (ho3.ext hxd).chg hch fun k hk e => ?_, hf3.mono (hx1.trans hx2).size⟩
 have := hf3 k hk
 have := hv.lt
 have := hx2.size
 subst e
 omega
end Go.Proofs.YtplieiecebljmaaGreat
namespace Go.Proofs.YtplieiecebljmaaGreat
open Go Gx
theorem run_ldB {P : Program} {w : World} : ∀ (l : List UInt8) (a : Addr) (acc : ByteArray), (∀ j x, l[j]? = some x → w.cell? (a.add j) = some (.int .u8 ((x.toNat : Nat) : Int))) →
   (Extern.Bytes.loadBytes a l.length acc).run P w = .ok ⟨acc.data ++ l.toArray⟩ w
 | [], a, acc, _ => by simp [Extern.Bytes.loadBytes]
 | x :: l, a, acc, h => by
   have h0 := h 0 x rfl
   rw [add_zero'] at h0
   have ih := run_ldB (P := P) l (a.add 1) (acc.push x) (fun j y hy => by
     rw [add_add, Nat.add_comm]
     exact h (j + 1) y (by simpa using hy))
   have hx : ((x.toNat : Nat) : Int).toNat.toUInt8 = x := byteNat x
   simp only [List.length_cons, Extern.Bytes.loadBytes, Sem.run_bind, run_load' h0, Result.andThen, hx]
   rw [ih]
   congr 2
   simp [ByteArray.push]
theorem run_bytesOf {P : Program} {w : World} {s : Sl} {l : List UInt8} (h : Src 1 w s (u8s l)) : (Extern.Bytes.bytesOf (.slice s.a s.len s.cap)).run P w = .ok (S l) w := by
 cases hs : s.a with
 | none =>
   have h0 : l = [] := by
     have := h.nil hs
     cases l with
     | nil => rfl
     | cons a l => simp [u8s] at this
   subst h0
   rfl
 | some A =>
   have hr := h.rd A hs
   rw [Nat.mul_one] at hr
   have := run_ldB (P := P) (w := w) l A .empty (fun j x hj => by
     have := rdCells_get hr (j := j) (v := .int .u8 ((x.toNat : Nat) : Int)) (by simp [u8s, hj])
     simpa using this)
   show (Extern.Bytes.loadBytes A s.len .empty).run P w = _
   rw [len8 h, this]
   congr 1
   show (ByteArray.mk (ByteArray.empty.data ++ l.toArray)) = ByteArray.mk l.toArray
   congr 1
   exact Array.empty_append ..
theorem cmpK_eq : ∀ a b : Key, Lib.compareBytes a b = cmpK a b
 | [], [] => rfl
 | [], _ :: _ => rfl
 | _ :: _, [] => rfl
 | a :: x, b :: y => by
   simp only [Lib.compareBytes, cmpK, UInt8.lt_iff_toNat_lt, cmpK_eq x y]
theorem bytes_Compare {s t : Sl} {l m : Key} {w : World} (hs : Src 1 w s (u8s l)) (ht : Src 1 w t (u8s m)) :
   Ret Tryz.prog F.bytes_Compare #[.slice s.a s.len s.cap, .slice t.a t.len t.cap] w (fun v w' => v = .int .i64 (cmpK l m) ∧ w = w') := by
 refine W.bytes_Compare_ok s t w _ ?_
 unfold W.bytes_Compare
 refine ⟨cmpK l m, w, ?_, rfl, rfl⟩
 rw [run_callFunc_extern Tryz.func113 rfl rfl rfl rfl]
 have : (Extern.BytealgCompare.compare #[.slice s.a s.len s.cap, .slice t.a t.len t.cap]).run Tryz.prog w = .ok (.int .i64 (cmpK l m)) w := by
   change Sem.run Tryz.prog (do pure (goInt (Extern.BytealgCompare.cmp (← Extern.Bytes.bytesOf (.slice s.a s.len s.cap)) (← Extern.Bytes.bytesOf (.slice t.a t.len t.cap))))) w = _
   simp only [Sem.run_bind, run_bytesOf hs, run_bytesOf ht, Result.andThen, Sem.run_pure]
   rw [Lib.cmp_eq]
   show Result.ok (goInt (Lib.compareBytes l m)) w = _
   rw [cmpK_eq]; rfl
 rw [this]
 rfl
theorem convS {s : Sl} {l : List UInt8} {w : World} (h : Src 1 w s (u8s l)) : Sem.run Tryz.prog (convert Ty.Sl_uint8 Ty.string (.slice s.a s.len s.cap)) w = .ok (.string (S l)) w := by
 have h' : Src 1 w s ((l.map fun b => ((b.toNat : Nat) : Int)).map (.int .u8)) := by rw [List.map_map]; exact h
 have := conv_byteS (src := Ty.Sl_uint8) (dst := Ty.string) (by kernel_rfl) (by kernel_rfl) h'
 rw [List.map_map] at this
 have e : ((fun n : Int => UInt8.ofNat n.toNat) ∘ fun b : UInt8 => ((b.toNat : Nat) : Int)) = id := by funext b; simp
 rw [e, List.map_id] at this
 exact this
theorem bytes_Equal {s t : Sl} {l m : Key} {w : World} (hs : Src 1 w s (u8s l)) (ht : Src 1 w t (u8s m)) :
   Ret Tryz.prog F.bytes_Equal #[.slice s.a s.len s.cap, .slice t.a t.len t.cap] w (fun v w' => v = .bool (decide (l = m)) ∧ w = w') := by
 refine W.bytes_Equal_ok s t w _ ?_
 unfold W.bytes_Equal
 refine ⟨_, _, convS hs, _, _, convS ht, ?_, rfl⟩
 rw [S_beq]
 congr 1
 rw [Bool.eq_iff_iff]; simp
def In (B : Nat → Prop) (w : World) (s : Sl) : Prop := ∀ k, ownB s k → B k ∧ k < w.heap.size
def Tx (B : Nat → Prop) (w : World) (t : Sl) (l : Key) : Prop := Src 1 w t (u8s l) ∧ t.len ≤ t.cap ∧ In B w t
def TxR (B : Nat → Prop) (w : World) (s : Sl) (ls : List Key) : Prop :=
 ∃ ts : List Sl, ts.length = ls.length ∧ Src 1 w s (ts.map slv) ∧ s.len ≤ s.cap ∧ In B w s ∧ ∀ (i : Nat) (h1 : i < ts.length) (h2 : i < ls.length), Tx B w ts[i] ls[i]
def intsV (ds : List Nat) : List Value := ds.map fun d => .int .i64 ((d : Nat) : Int)
def InR (B : Nat → Prop) (w : World) (s : Sl) (ds : List Nat) : Prop := Src 1 w s (intsV ds) ∧ s.len ≤ s.cap ∧ In B w s
def TxO (B : Nat → Prop) (w : World) (s : Sl) (ls : List Key) : Prop :=
 ∃ ts : List Sl, ts.length = ls.length ∧ OwnS 1 Ty.Sl_uint8 w s (ts.map slv) ∧ In B w s ∧ ∀ (i : Nat) (h1 : i < ts.length) (h2 : i < ls.length), Tx B w ts[i] ls[i] ∧ ∀ k, ownB ts[i] k → ¬ ownB s k
def InO (B : Nat → Prop) (w : World) (s : Sl) (ds : List Nat) : Prop := OwnS 1 Ty.int w s (intsV ds) ∧ In B w s
section
variable {B C : Nat → Prop} {w w' : World} {s t : Sl} {l : Key} {ls : List Key} {ds : List Nat}
theorem In.chg {V : Nat → Prop} (h : In B w s) (hc : Chg V w w') : In B w' s := fun k hk => ⟨(h k hk).1, Nat.lt_of_lt_of_le (h k hk).2 hc.size⟩
theorem In.weak (h : In B w s) (hb : ∀ k, k < w.heap.size → B k → C k) : In C w s := fun k hk => ⟨hb k (h k hk).2 (h k hk).1, (h k hk).2⟩
theorem Tx.chg {V : Nat → Prop} (h : Tx B w t l) (hc : Chg V w w') (hb : ∀ k, B k → ¬ V k) : Tx B w' t l := ⟨h.1.chg hc fun k hk => hb k (h.2.2 k hk).1, h.2.1, In.chg h.2.2 hc⟩
theorem Tx.chg2 {V : Nat → Prop} (h : Tx B w t l) (hc : Chg V w w') (hb : ∀ k, ownB t k → ¬ V k) : Tx B w' t l := ⟨h.1.chg hc hb, h.2.1, In.chg h.2.2 hc⟩
theorem Tx.ext (h : Tx B w t l) (hc : Ext w w') : Tx B w' t l := Tx.chg h hc fun _ _ h => h
theorem Tx.weak (h : Tx B w t l) (hb : ∀ k, k < w.heap.size → B k → C k) : Tx C w t l := ⟨h.1, h.2.1, In.weak h.2.2 hb⟩
theorem TxR.chg {V : Nat → Prop} (h : TxR B w s ls) (hc : Chg V w w') (hb : ∀ k, B k → ¬ V k) : TxR B w' s ls := by
 obtain ⟨ts, h1, h2, h3, h4, h5⟩ := h
 exact ⟨ts, h1, h2.chg hc fun k hk => hb k (h4 k hk).1, h3, In.chg h4 hc, fun i h6 h7 => Tx.chg (h5 i h6 h7) hc hb⟩
theorem TxR.ext (h : TxR B w s ls) (hc : Ext w w') : TxR B w' s ls := TxR.chg h hc fun _ _ h => h
theorem TxR.weak (h : TxR B w s ls) (hb : ∀ k, k < w.heap.size → B k → C k) : TxR C w s ls := by
 obtain ⟨ts, h1, h2, h3, h4, h5⟩ := h
 exact ⟨ts, h1, h2, h3, In.weak h4 hb, fun i h6 h7 => Tx.weak (h5 i h6 h7) hb⟩
theorem InR.chg {V : Nat → Prop} (h : InR B w s ds) (hc : Chg V w w') (hb : ∀ k, B k → ¬ V k) : InR B w' s ds := ⟨h.1.chg hc fun k hk => hb k (h.2.2 k hk).1, h.2.1, In.chg h.2.2 hc⟩
theorem InR.ext (h : InR B w s ds) (hc : Ext w w') : InR B w' s ds := InR.chg h hc fun _ _ h => h
theorem InR.weak (h : InR B w s ds) (hb : ∀ k, k < w.heap.size → B k → C k) : InR C w s ds := ⟨h.1, h.2.1, In.weak h.2.2 hb⟩
theorem TxR.len (h : TxR B w s ls) : s.len = ls.length := by
 obtain ⟨ts, h1, h2, _⟩ := h
 have := h2.len
 rw [List.length_map] at this; omega
theorem intsV_length (ds : List Nat) : (intsV ds).length = ds.length := by simp [intsV]
theorem InR.len (h : InR B w s ds) : s.len = ds.length := by
 have := h.1.len
 rw [intsV_length] at this; omega
theorem TxR.at (h : TxR B w s ls) {i : Nat} (hi : i < ls.length) : ∃ (A : Addr) (t : Sl), s.a = some A ∧ ((0 : Int) ≤ (i : Int) ∧ (i : Int) < ((s.len : Nat) : Int)) ∧ w.cell? (A.add (Int.toNat (i : Int) * 1)) = some (.slice t.a t.len t.cap) ∧ Tx B w t ls[i] ∧ B A.block := by
 obtain ⟨ts, h1, h2, h3, h4, h5⟩ := h
 obtain ⟨A, hA, hb, hc⟩ := h2.at (i := i) (v := slv (ts[i]'(by omega))) (by simp [h1, hi])
 exact ⟨A, ts[i]'(by omega), hA, hb, hc, h5 i (by omega) hi, (h4 _ ⟨A, hA, rfl⟩).1⟩
theorem InR.at (h : InR B w s ds) {i : Nat} (hi : i < ds.length) : ∃ A : Addr, s.a = some A ∧ ((0 : Int) ≤ (i : Int) ∧ (i : Int) < ((s.len : Nat) : Int)) ∧ w.cell? (A.add (Int.toNat (i : Int) * 1)) = some (.int .i64 ((ds[i] : Nat) : Int)) := by
 obtain ⟨A, hA, hb, hc⟩ := h.1.at (i := i) (v := .int .i64 ((ds[i] : Nat) : Int)) (by simp [intsV, hi])
 exact ⟨A, hA, hb, hc⟩
theorem TxO.txR (h : TxO B w s ls) : TxR B w s ls := by
 obtain ⟨ts, h1, h2, h3, h4⟩ := h
 exact ⟨ts, h1, h2.src, h2.2.1, h3, fun i h5 h6 => (h4 i h5 h6).1⟩
theorem InO.inR (h : InO B w s ds) : InR B w s ds := ⟨h.1.src, h.1.2.1, h.2⟩
theorem TxO.none (B : Nat → Prop) (w : World) : TxO B w ⟨.none, 0, 0⟩ [] := ⟨[], rfl, OwnS.none _ _ _, fun k hk => (ownB_none k hk).elim, fun i h => by simp at h⟩
theorem InO.none (B : Nat → Prop) (w : World) : InO B w ⟨.none, 0, 0⟩ [] := ⟨OwnS.none _ _ _, fun k hk => (ownB_none k hk).elim⟩
theorem TxR.none (B : Nat → Prop) (w : World) : TxR B w ⟨.none, 0, 0⟩ [] := TxO.txR (TxO.none B w)
theorem InR.none (B : Nat → Prop) (w : World) : InR B w ⟨.none, 0, 0⟩ [] := InO.inR (InO.none B w)
theorem TxO.chg {V : Nat → Prop} (h : TxO B w s ls) (hc : Chg V w w') (hb : ∀ k, B k → ¬ V k) : TxO B w' s ls := by
 obtain ⟨ts, h1, h2, h3, h4⟩ := h
 exact ⟨ts, h1, h2.chg hc fun k hk => hb k (h3 k hk).1, In.chg h3 hc, fun i h5 h6 => ⟨Tx.chg (h4 i h5 h6).1 hc hb, (h4 i h5 h6).2⟩⟩
theorem TxO.ext (h : TxO B w s ls) (hc : Ext w w') : TxO B w' s ls := TxO.chg h hc fun _ _ h => h
theorem InO.chg {V : Nat → Prop} (h : InO B w s ds) (hc : Chg V w w') (hb : ∀ k, B k → ¬ V k) : InO B w' s ds := ⟨h.1.chg hc fun k hk => hb k (h.2 k hk).1, In.chg h.2 hc⟩
theorem InO.ext (h : InO B w s ds) (hc : Ext w w') : InO B w' s ds := InO.chg h hc fun _ _ h => h
theorem Tx.some (h : Tx B w t l) (hl : l ≠ []) : ∃ A, t.a = some A := by
 cases ha : t.a with
 | none =>
   have := h.1.nil ha
   exfalso
   apply hl
   cases l with
   | nil => rfl
   | cons a l => simp [u8s] at this
 | some A => exact ⟨A, rfl⟩
end
theorem appTx : AppT Tryz.prog Ty.Sl_Sl_uint8 Ty.Sl_uint8 1 24 := ⟨by kernel_rfl⟩
theorem appInt : AppT Tryz.prog Ty.Sl_int Ty.int 1 8 := ⟨by kernel_rfl⟩
theorem slv_plain (ts : List Sl) : ∀ v ∈ ts.map slv, Plain v := by
 intro v hv
 obtain ⟨n, _, rfl⟩ := List.mem_map.1 hv
 trivial
theorem intsV_plain (ds : List Nat) : ∀ v ∈ intsV ds, Plain v := by
 intro v hv
 obtain ⟨n, _, rfl⟩ := List.mem_map.1 hv
 trivial
theorem cloneTx {B : Nat → Prop} {w : World} {s : Sl} {l : List UInt8} (h : Src 1 w s (u8s l)) (hl : l.length ≤ 1000000) (hB : ∀ k, w.heap.size ≤ k → B k) :
   Ret Tryz.prog F.slices_Clone_Sl_byte_byte #[.slice s.a s.len s.cap] w (fun v w' => ∃ s' : Sl, v = .slice s'.a s'.len s'.cap ∧ Tx B w' s' l ∧ Ext w w' ∧ Frs w s') := by
 refine (clone8 h hl).mono ?_
 rintro _ w' ⟨s', rfl, ho, hx, hf⟩
 exact ⟨s', rfl, ⟨ho.src, ho.2.1, fun k hk => ⟨hB k (hf k hk), ho.lt k hk⟩⟩, hx, hf⟩
theorem pushTx {B : Nat → Prop} {w : World} {s t : Sl} {ls : List Key} {l : Key} (ho : TxO B w s ls) (ht : Tx B w t l) (hd : ∀ k, ownB t k → ¬ ownB s k) (hn : ls.length ≤ 1000000) (hB : ∀ k, w.heap.size ≤ k → B k) :
   ∃ (s' : Sl) (w' : World), Sem.run Tryz.prog (Builtin.append_ #[Ty.Sl_Sl_uint8, Ty.Sl_Sl_uint8] Ty.Sl_Sl_uint8 #[.slice s.a s.len s.cap, .slice (some ⟨w.heap.size, 0, none⟩) 1 1]) (w.alloc (.cells #[.slice t.a t.len t.cap] Ty.Sl_uint8)) = .ok (.slice s'.a s'.len s'.cap) w' ∧
     TxO B w' s' (ls ++ [l]) ∧ Chg (ownB s) w w' ∧ (∀ k, ownB s' k → ownB s k ∨ w.heap.size ≤ k) := by
 obtain ⟨ts, h1, h2, h3, h4⟩ := ho
 have hsl : s.len = ls.length := by have := h2.1; rw [List.length_map] at this; omega
 obtain ⟨s', w', g1, g2, g3, g4, g5⟩ := appTx.push (oT := Ty.Sl_Sl_uint8) (w := w) (s := s) (xs := [slv t]) rfl h2 (fun v hv => by rw [List.mem_singleton.1 hv]; trivial) (by omega)
 refine ⟨s', w', g1, ⟨ts ++ [t], by simp [h1], ?_, ?_, fun i h5 h6 => ?_⟩, g4, g5⟩
 · rw [List.map_append]; exact g2
 · intro k hk
   refine ⟨?_, g2.lt k hk⟩
   rcases g5 k hk with h | h
   · exact (h3 k h).1
   · exact hB k h
 · have hnew : ∀ (x : Sl), (∀ k, ownB x k → k < w.heap.size) → (∀ k, ownB x k → ¬ ownB s k) → ∀ k, ownB x k → ¬ ownB s' k := fun x hx hx2 k hk hk2 => by
     rcases g5 k hk2 with h | h
     · exact hx2 k hk h
     · have := hx k hk; omega
   have h5' : i < ts.length + 1 := by simpa using h5
   rcases Nat.lt_or_ge i ts.length with h | h
   · obtain ⟨h7, h8⟩ := h4 i h (by omega)
     simp only [List.getElem_append_left h, List.getElem_append_left (show i < ls.length by omega)]
     exact ⟨Tx.chg2 h7 g4 h8, hnew _ (fun k hk => (h7.2.2 k hk).2) h8⟩
   · have : i = ts.length := by omega
     subst this
     have e : (ts ++ [t])[ts.length]'h5 = t := by simp
     have : (ls ++ [l])[ts.length]'h6 = l := by rw [List.getElem_append_right (by omega)]; simp
     rw [this, e]
     exact ⟨Tx.chg2 ht g4 hd, hnew _ (fun k hk => (ht.2.2 k hk).2) hd⟩
theorem pushInt {B : Nat → Prop} {w : World} {s : Sl} {ds : List Nat} (d : Nat) (ho : InO B w s ds) (hn : ds.length ≤ 1000000) (hB : ∀ k, w.heap.size ≤ k → B k) :
   ∃ (s' : Sl) (w' : World), Sem.run Tryz.prog (Builtin.append_ #[Ty.Sl_int, Ty.Sl_int] Ty.Sl_int #[.slice s.a s.len s.cap, .slice (some ⟨w.heap.size, 0, none⟩) 1 1]) (w.alloc (.cells #[.int .i64 ((d : Nat) : Int)] Ty.int)) = .ok (.slice s'.a s'.len s'.cap) w' ∧
     InO B w' s' (ds ++ [d]) ∧ Chg (ownB s) w w' ∧ (∀ k, ownB s' k → ownB s k ∨ w.heap.size ≤ k) := by
 have hsl : s.len = ds.length := by have := ho.1.1; rw [intsV_length] at this; omega
 obtain ⟨s', w', g1, g2, g3, g4, g5⟩ := appInt.push (oT := Ty.Sl_int) (w := w) (s := s) (xs := [.int .i64 ((d : Nat) : Int)]) rfl ho.1 (fun v hv => by rw [List.mem_singleton.1 hv]; trivial) (by omega)
 refine ⟨s', w', g1, ⟨by simpa [intsV] using g2, fun k hk => ⟨?_, g2.lt k hk⟩⟩, g4, g5⟩
 rcases g5 k hk with h | h
 · exact (ho.2 k h).1
 · exact hB k h
structure NdAt (B : Nat → Prop) (w : World) (n : Nd) (K V D : Sl) : Prop where
 keys : TxR B w K n.keys
 vals : TxR B w V n.vals
 kids : InR B w D n.kids
def ndL (n : Nd) (K V D : Sl) : List Value := [.bool n.leaf, .slice K.a K.len K.cap, .slice V.a V.len V.cap, .slice D.a D.len D.cap]
def ndV (n : Nd) (K V D : Sl) : Value := .agg #[.bool n.leaf, .slice K.a K.len K.cap, .slice V.a V.len V.cap, .slice D.a D.len D.cap]
section
variable {B C : Nat → Prop} {w w' : World} {n : Nd} {K V D : Sl}
theorem NdAt.chg {W : Nat → Prop} (h : NdAt B w n K V D) (hc : Chg W w w') (hb : ∀ k, B k → ¬ W k) : NdAt B w' n K V D := ⟨TxR.chg h.keys hc hb, TxR.chg h.vals hc hb, InR.chg h.kids hc hb⟩
theorem NdAt.ext (h : NdAt B w n K V D) (hc : Ext w w') : NdAt B w' n K V D := NdAt.chg h hc fun _ _ h => h
theorem NdAt.weak (h : NdAt B w n K V D) (hb : ∀ k, k < w.heap.size → B k → C k) : NdAt C w n K V D := ⟨TxR.weak h.keys hb, TxR.weak h.vals hb, InR.weak h.kids hb⟩
theorem ndCells {b : Nat} {T : TypeId} {leaf : Bool} (h : Var w b [.bool leaf, .slice K.a K.len K.cap, .slice V.a V.len V.cap, .slice D.a D.len D.cap] T) :
   w.cell? ⟨b, 0, none⟩ = some (.bool leaf) ∧ w.cell? (Addr.add ⟨b, 0, none⟩ 1) = some (.slice K.a K.len K.cap) ∧ w.cell? (Addr.add ⟨b, 0, none⟩ 2) = some (.slice V.a V.len V.cap) ∧ w.cell? (Addr.add ⟨b, 0, none⟩ 3) = some (.slice D.a D.len D.cap) := by
 rw [add_mk, add_mk, add_mk]
 exact ⟨h.cell, h.cell, h.cell, h.cell⟩
end
end Go.Proofs.YtplieiecebljmaaGreat
namespace Go.Proofs.YtplieiecebljmaaGreat
open Go Gx
theorem vals_Contains {B : Nat → Prop} {w : World} {s : Sl} {ls : List Key} (h : TxR B w s ls) (hn : ls.length ≤ 1000000) :
   Ret Tryz.prog F.slices_ContainsFunc_Sl_Sl_byte_Sl_byte #[.slice s.a s.len s.cap, .func (.func F.node_sound_1) #[] #[]] w (fun v w' => v = .bool (ls.any fun v => decide (24 < v.length)) ∧ w = w') := by
 refine W.slices_ContainsFunc_Sl_Sl_byte_Sl_byte_ok s ⟨F.node_sound_1, #[], #[]⟩ w _ ?_
 (delta W.slices_ContainsFunc_Sl_Sl_byte_Sl_byte c2; dsimp only)
 have hl := TxR.len h
 have hcall : Callable Tryz.prog F.node_sound_1 := ⟨_, (Option.some_get (show (Tryz.prog.funcs[F.node_sound_1]?).isSome = true by kernel_rfl)).symm, by kernel_rfl, by kernel_rfl⟩
 refine Calls.mono (W.slices_IndexFunc_Sl_Sl_byte_Sl_byte_ok s ⟨F.node_sound_1, #[], #[]⟩ w (fun v w' => (∃ i : Int, v = .int .i64 i ∧ (decide (i ≥ 0)) = (ls.any fun v => decide (24 < v.length))) ∧ w = w') ?_) ?_
 · (delta W.slices_IndexFunc_Sl_Sl_byte_Sl_byte Br bd r1 wI; dsimp only)
   refine ⟨fun i w' => ∃ j : Nat, i = j ∧ j ≤ ls.length ∧ w = w' ∧ ∀ (k : Nat) (hk : k < ls.length), k < j → (ls[k]).length ≤ 24, fun i _ => ((ls.length : Int) - i).toNat, ⟨0, rfl, Nat.zero_le _, rfl, fun k hk h => by omega⟩, ?_⟩
   rintro _ _ ⟨j, rfl, hj, rfl, hall⟩
   refine ⟨fun hlt => ?_, fun hge => ?_⟩
   · have hlt : j < ls.length := by have := of_decide_eq_true hlt; omega
     obtain ⟨A, t, hA, hb, hc, ht, _⟩ := TxR.at h hlt
     refine ⟨A, hA, hb, t, hc, hcall, ?_⟩
     have htl := len8 ht.1
     refine Calls.mono (W.node_sound_1_ok t w (fun v w' => v = .bool (decide (24 < (ls[j]).length)) ∧ w = w') ⟨?_, rfl⟩) ?_
     · congr 1
       rw [Bool.eq_iff_iff, decide_eq_true_eq, decide_eq_true_eq]; omega
     rintro _ _ ⟨_, rfl, rfl, rfl⟩
     refine ⟨_, rfl, fun hb => ⟨⟨j, rfl, ?_⟩, rfl⟩, fun hb => ?_⟩
     · have : (ls.any fun v => decide (24 < v.length)) = true := List.any_eq_true.2 ⟨_, List.getElem_mem hlt, hb⟩
       rw [this]; exact decide_eq_true (by omega)
     · have hb := of_decide_eq_false hb
       rw [wrapi (n := (j : Int) + 1) (by omega) (by omega)]
       refine ⟨⟨j + 1, by omega, by omega, rfl, fun k hk h => ?_⟩, ?_⟩
       · rcases Nat.lt_or_ge k j with h1 | h1
         · exact hall k hk h1
         · have : k = j := by omega
           subst this; omega
       · show ((ls.length : Int) - ((j : Int) + 1)).toNat < ((ls.length : Int) - (j : Int)).toNat
         omega
   · have hge : j = ls.length := by have := of_decide_eq_false hge; omega
     subst hge
     refine ⟨⟨-1, rfl, ?_⟩, rfl⟩
     have : (ls.any fun v => decide (24 < v.length)) = false := by
       rw [List.any_eq_false]
       intro x hx
       obtain ⟨k, hk, rfl⟩ := List.getElem_of_mem hx
       have := hall k hk hk
       simp; omega
     rw [this]; rfl
 · rintro _ _ ⟨_, rfl, ⟨i, rfl, hi⟩, rfl⟩
   exact ⟨i, rfl, by rw [hi], rfl⟩
theorem kids_Contains {B : Nat → Prop} {w : World} {s : Sl} {ds : List Nat} (h : InR B w s ds) (hn : ds.length ≤ 1000000) :
   Ret Tryz.prog F.slices_ContainsFunc_Sl_int_int #[.slice s.a s.len s.cap, .func (.func F.node_sound_2) #[] #[]] w (fun v w' => v = .bool (ds.any fun d => decide (1600 ≤ d)) ∧ w = w') := by
 refine W.slices_ContainsFunc_Sl_int_int_ok s ⟨F.node_sound_2, #[], #[]⟩ w _ ?_
 (delta W.slices_ContainsFunc_Sl_int_int c2; dsimp only)
 have hl := InR.len h
 have hcall : Callable Tryz.prog F.node_sound_2 := ⟨_, (Option.some_get (show (Tryz.prog.funcs[F.node_sound_2]?).isSome = true by kernel_rfl)).symm, by kernel_rfl, by kernel_rfl⟩
 refine Calls.mono (W.slices_IndexFunc_Sl_int_int_ok s ⟨F.node_sound_2, #[], #[]⟩ w (fun v w' => (∃ i : Int, v = .int .i64 i ∧ (decide (i ≥ 0)) = (ds.any fun d => decide (1600 ≤ d))) ∧ w = w') ?_) ?_
 · (delta W.slices_IndexFunc_Sl_int_int Br bd r2 wI; dsimp only)
   refine ⟨fun i w' => ∃ j : Nat, i = j ∧ j ≤ ds.length ∧ w = w' ∧ ∀ (k : Nat) (hk : k < ds.length), k < j → ds[k] < 1600, fun i _ => ((ds.length : Int) - i).toNat, ⟨0, rfl, Nat.zero_le _, rfl, fun k hk h => by omega⟩, ?_⟩
   rintro _ _ ⟨j, rfl, hj, rfl, hall⟩
   refine ⟨fun hlt => ?_, fun hge => ?_⟩
   · have hlt : j < ds.length := by have := of_decide_eq_true hlt; omega
     obtain ⟨A, hA, hb, hc⟩ := InR.at h hlt
     refine ⟨A, hA, hb, _, hc, hcall, ?_⟩
     refine Calls.mono (W.node_sound_2_ok ((ds[j] : Nat) : Int) w (fun v w' => v = .bool (decide (1600 ≤ ds[j])) ∧ w = w') ⟨?_, rfl⟩) ?_
     · congr 1
       rw [Bool.eq_iff_iff, Bool.or_eq_true, decide_eq_true_eq, decide_eq_true_eq, decide_eq_true_eq]; omega
     rintro _ _ ⟨_, rfl, rfl, rfl⟩
     refine ⟨_, rfl, fun hb => ⟨⟨j, rfl, ?_⟩, rfl⟩, fun hb => ?_⟩
     · have : (ds.any fun d => decide (1600 ≤ d)) = true := List.any_eq_true.2 ⟨_, List.getElem_mem hlt, hb⟩
       rw [this]; exact decide_eq_true (by omega)
     · have hb := of_decide_eq_false hb
       rw [wrapi (n := (j : Int) + 1) (by omega) (by omega)]
       refine ⟨⟨j + 1, by omega, by omega, rfl, fun k hk h => ?_⟩, ?_⟩
       · rcases Nat.lt_or_ge k j with h1 | h1
         · exact hall k hk h1
         · have : k = j := by omega
           subst this; omega
       · show ((ds.length : Int) - ((j : Int) + 1)).toNat < ((ds.length : Int) - (j : Int)).toNat
         omega
   · have hge : j = ds.length := by have := of_decide_eq_false hge; omega
     subst hge
     refine ⟨⟨-1, rfl, ?_⟩, rfl⟩
     have : (ds.any fun d => decide (1600 ≤ d)) = false := by
       rw [List.any_eq_false]
       intro x hx
       obtain ⟨k, hk, rfl⟩ := List.getElem_of_mem hx
       have := hall k hk hk
       simp; omega
     rw [this]; rfl
 · rintro _ _ ⟨_, rfl, ⟨i, rfl, hi⟩, rfl⟩
   exact ⟨i, rfl, by rw [hi], rfl⟩
theorem rise_adj : ∀ {l : List Key}, (∀ (i : Nat) (h : i + 1 < l.length), ltK l[i] l[i + 1]) → l.Pairwise ltK
 | [], _ => .nil
 | a :: l, h => by
   have ih := rise_adj (l := l) fun i hi => h (i + 1) (by simpa using hi)
   refine List.pairwise_cons.2 ⟨fun b hb => ?_, ih⟩
   cases l with
   | nil => simp at hb
   | cons c l =>
     have h0 : ltK a c := h 0 (by simp)
     rcases List.mem_cons.1 hb with rfl | hb
     · exact h0
     · exact ltK_trans h0 ((List.pairwise_cons.1 ih).1 b hb)
instance (k : Key) : Decidable (keyOk k) := by unfold keyOk; infer_instance
theorem node_keyed {w : World} {t : Sl} {l : Key} (h : Src 1 w t (u8s l)) : Ret Tryz.prog F.node_keyed #[.slice t.a t.len t.cap] w (fun v w' => v = .bool (decide (keyOk l)) ∧ w = w') := by
 have hl := len8 h
 refine W.node_keyed_ok t w _ ?_
 unfold W.node_keyed
 refine ⟨?_, rfl⟩
 congr 1
 rw [Bool.eq_iff_iff, Bool.and_eq_true, decide_eq_true_eq, decide_eq_true_eq, decide_eq_true_eq]
 unfold keyOk
 omega
theorem node_sound {B : Nat → Prop} {w : World} {n : Nd} {K V D : Sl} (h : NdAt B w n K V D) (h1 : n.keys.length ≤ 100000) (h2 : n.vals.length ≤ 100000) (h3 : n.kids.length ≤ 100000) :
   Ret Tryz.prog F.node_sound #[ndV n K V D] w (fun v w' => ∃ b : Bool, v = .bool b ∧ (b = true ↔ SoundN n) ∧ Ext w w') := by
 refine W.node_sound_ok n.leaf K V D w _ ?_
 (delta W.node_sound r1 nA Br bd c3 wI c2 r3; dsimp only)
 refine nxVar (vs := [.bool n.leaf, .slice K.a K.len K.cap, .slice V.a V.len V.cap, .slice D.a D.len D.cap]) rfl fun w1 hv hx1 _ => ?_
 obtain ⟨c0, c1, c2, c3⟩ := ndCells hv
 have hn := h.ext hx1
 have lk := TxR.len hn.keys
 have lv := TxR.len hn.vals
 have ld := InR.len hn.kids
 refine ⟨K, c1, fun i w' => ∃ j : Nat, i = j ∧ j ≤ n.keys.length ∧ w1 = w' ∧ (∀ (k : Nat) (hk : k < n.keys.length), k < j → keyOk n.keys[k]) ∧ ∀ (k : Nat) (hk : k + 1 < n.keys.length), k + 1 < j → ltK n.keys[k] n.keys[k + 1],
   fun i _ => ((n.keys.length : Int) - i).toNat, ⟨0, rfl, Nat.zero_le _, rfl, fun k hk h => by omega, fun k hk h => by omega⟩, ?_⟩
 rintro _ _ ⟨j, rfl, hj, rfl, hok, hri⟩
 refine ⟨fun hlt => ?_, fun hge => ?_⟩
 · have hlt : j < n.keys.length := by have := of_decide_eq_true hlt; omega
   obtain ⟨A, t, hA, hb, hc, ht, _⟩ := TxR.at hn.keys hlt
   refine ⟨A, hA, hb, t, hc, (node_keyed ht.1).use ?_⟩
   rintro _ _ ⟨rfl, rfl⟩
   refine ⟨_, rfl, Jn1 (fun b w' => w1 = w' ∧ (b = true → ¬ SoundN n) ∧ (b = false → keyOk n.keys[j] ∧ ∀ (hj : 1 ≤ j), ltK (n.keys[j - 1]'(by omega)) n.keys[j])) (fun q hq => ⟨fun hb => ?_, fun hb => ?_⟩) ?_⟩
   · have hb : ¬ keyOk n.keys[j] := by simpa using hb
     exact hq _ _ ⟨rfl, fun _ hs => hb (hs.keys.ok _ (List.getElem_mem hlt)), fun h => by cases h⟩
   · have hb : keyOk n.keys[j] := by simpa using hb
     refine Jn1 (fun b w' => w1 = w' ∧ (b = true → ¬ SoundN n) ∧ (b = false → ∀ (hj : 1 ≤ j), ltK (n.keys[j - 1]'(by omega)) n.keys[j])) (fun q2 hq2 => ⟨fun h0 => ?_, fun h0 => ?_⟩) ?_
     · have h0 : 1 ≤ j := by have := of_decide_eq_true h0; omega
       rw [wrapi (n := (j : Int) - 1) (by omega) (by omega), show (j : Int) - 1 = ((j - 1 : Nat) : Int) by omega]
       obtain ⟨A2, t2, hA2, hb2, hc2, ht2, _⟩ := TxR.at hn.keys (i := j - 1) (by omega)
       refine ⟨K, c1, A2, hA2, hb2, t2, hc2, (bytes_Compare ht2.1 ht.1).use ?_⟩
       rintro _ _ ⟨rfl, rfl⟩
       refine ⟨_, rfl, hq2 _ _ ⟨rfl, fun hc hs => ?_, fun hc _ => ?_⟩⟩
       · have hc := of_decide_eq_true hc
         have : ltK (n.keys[j - 1]'(by omega)) n.keys[j] := List.pairwise_iff_getElem.1 hs.keys.rise (j - 1) j (by omega) hlt (by omega)
         unfold ltK at this
         omega
       · have hc := of_decide_eq_false hc
         unfold ltK; omega
     · have h0 := of_decide_eq_false h0
       exact hq2 _ _ ⟨rfl, fun h => (by cases h), fun _ hj => by omega⟩
     · rintro b w' ⟨rfl, g1, g2⟩
       exact hq _ _ ⟨rfl, g1, fun hb2 => ⟨hb, g2 hb2⟩⟩
   · rintro b w' ⟨rfl, g1, g2⟩
     refine ⟨fun hb => ⟨false, rfl, ⟨fun h => (by cases h), fun hs => absurd hs (g1 hb)⟩, hx1⟩, fun hb => ?_⟩
     obtain ⟨g3, g4⟩ := g2 hb
     rw [wrapi (n := (j : Int) + 1) (by omega) (by omega)]
     refine ⟨⟨j + 1, by omega, by omega, rfl, fun k hk h => ?_, fun k hk h => ?_⟩, ?_⟩
     · rcases Nat.lt_or_ge k j with h1 | h1
       · exact hok k hk h1
       · have : k = j := by omega
         subst this; exact g3
     · rcases Nat.lt_or_ge (k + 1) j with h1 | h1
       · exact hri k hk h1
       · have : j = k + 1 := by omega
         subst this
         exact g4 (by omega)
     · show ((n.keys.length : Int) - ((j : Int) + 1)).toNat < ((n.keys.length : Int) - (j : Int)).toNat
       omega
 · have hge : j = n.keys.length := by have := of_decide_eq_false hge; omega
   subst hge
   have hko : KeysOk n := ⟨fun k hk => by
     obtain ⟨i, hi, rfl⟩ := List.getElem_of_mem hk
     exact hok i hi hi, rise_adj fun i hi => hri i hi hi⟩
   refine ⟨n.leaf, c0, fun hl => ⟨V, c2, K, c1, ?_⟩, fun hl => ⟨K, c1, ?_⟩⟩
   · refine Jn1 (fun b w' => w1 = w' ∧ b = (decide (n.vals.length = n.keys.length) && decide (n.kids = []))) (fun q hq => ⟨fun hb => ⟨D, c3, hq _ _ ⟨rfl, ?_⟩⟩, fun hb => hq _ _ ⟨rfl, ?_⟩⟩) ?_
     · have hb := eq_of_beq hb
       rw [decide_eq_true (show n.vals.length = n.keys.length by omega), Bool.true_and, Bool.eq_iff_iff, beq_iff_eq, decide_eq_true_eq, ← List.length_eq_zero_iff]
       omega
     · have hb : ¬ (((V.len : Nat) : Int) = ((K.len : Nat) : Int)) := fun e => by rw [e] at hb; simp at hb
       rw [decide_eq_false (by omega), Bool.false_and]
     rintro b w' ⟨rfl, rfl⟩
     refine Jn1 (fun b w' => w1 = w' ∧ (b = true ↔ SoundN n)) (fun q hq => ⟨fun hb => ⟨V, c2, (vals_Contains hn.vals (by omega)).use ?_⟩, fun hb => hq _ _ ⟨rfl, ?_⟩⟩) ?_
     · rintro _ _ ⟨rfl, rfl⟩
       refine ⟨_, rfl, hq _ _ ⟨rfl, ?_⟩⟩
       simp only [Bool.and_eq_true, decide_eq_true_eq] at hb
       rw [Bool.not_eq_true', List.any_eq_false]
       constructor
       · intro hall
         exact .inl ⟨hko, hl, hb.1, hb.2, fun v hv => by have := hall v hv; simp at this; omega⟩
       · rintro (hs | hs)
         · intro v hv; have := hs.vals v hv; simp; omega
         · have := hs.inner; rw [hl] at this; cases this
     · have hb : ¬ (n.vals.length = n.keys.length ∧ n.kids = []) := by simpa using hb
       refine ⟨fun h => (by cases h), ?_⟩
       rintro (hs | hs)
       · exact absurd ⟨hs.len, hs.kids⟩ hb
       · have := hs.inner; rw [hl] at this; cases this
     rintro b w' ⟨rfl, hb⟩
     exact ⟨b, rfl, hb, hx1⟩
   · refine Jn1 (fun b w' => w1 = w' ∧ b = (decide (n.keys ≠ []) && decide (n.kids.length = n.keys.length + 1))) (fun q hq => ⟨fun hb => ⟨D, c3, K, c1, hq _ _ ⟨rfl, ?_⟩⟩, fun hb => hq _ _ ⟨rfl, ?_⟩⟩) ?_
     · have hb := of_decide_eq_true hb
       have hne : n.keys ≠ [] := fun e => by rw [e] at lk; simp at lk; omega
       rw [decide_eq_true hne, Bool.true_and, Bool.eq_iff_iff, beq_iff_eq, decide_eq_true_eq, wrapi (by omega) (by omega)]
       omega
     · have hb := of_decide_eq_false hb
       have hne : n.keys = [] := List.length_eq_zero_iff.1 (by omega)
       rw [decide_eq_false (fun h => h hne), Bool.false_and]
     rintro b w' ⟨rfl, rfl⟩
     refine Jn1 (fun b w' => w1 = w' ∧ b = (decide (n.keys ≠ []) && decide (n.kids.length = n.keys.length + 1) && decide (n.vals = []))) (fun q hq => ⟨fun hb => ⟨V, c2, hq _ _ ⟨rfl, ?_⟩⟩, fun hb => hq _ _ ⟨rfl, ?_⟩⟩) ?_
     · rw [hb, Bool.true_and, Bool.eq_iff_iff, beq_iff_eq, decide_eq_true_eq, ← List.length_eq_zero_iff]
       omega
     · rw [hb, Bool.false_and]
     rintro b w' ⟨rfl, rfl⟩
     refine Jn1 (fun b w' => w1 = w' ∧ (b = true ↔ SoundN n)) (fun q hq => ⟨fun hb => ⟨D, c3, (kids_Contains hn.kids (by omega)).use ?_⟩, fun hb => hq _ _ ⟨rfl, ?_⟩⟩) ?_
     · rintro _ _ ⟨rfl, rfl⟩
       refine ⟨_, rfl, hq _ _ ⟨rfl, ?_⟩⟩
       simp only [Bool.and_eq_true, decide_eq_true_eq] at hb
       rw [Bool.not_eq_true', List.any_eq_false]
       constructor
       · intro hall
         exact .inr ⟨hko, hl, hb.1.1, hb.1.2, hb.2, fun v hv => by have := hall v hv; simp at this; omega⟩
       · rintro (hs | hs)
         · have := hs.leaf; rw [hl] at this; cases this
         · intro v hv; have := hs.kids v hv; simp; omega
     · have hb : ¬ ((n.keys ≠ [] ∧ n.kids.length = n.keys.length + 1) ∧ n.vals = []) := fun e => by
         rw [decide_eq_true e.1.1, decide_eq_true e.1.2, decide_eq_true e.2] at hb; cases hb
       refine ⟨fun h => (by cases h), ?_⟩
       rintro (hs | hs)
       · have := hs.leaf; rw [hl] at this; cases this
       · exact absurd ⟨⟨hs.some, hs.len⟩, hs.vals⟩ hb
     rintro b w' ⟨rfl, hb⟩
     exact ⟨b, rfl, hb, hx1⟩
end Go.Proofs.YtplieiecebljmaaGreat
namespace Go.Proofs.YtplieiecebljmaaGreat
open Go Gx
theorem num_Bytes2 {w : World} {a b : Sl} {la lb : List UInt8} (ha : Src 1 w a (u8s la)) (hb : Src 1 w b (u8s lb)) (hl : la.length + lb.length ≤ 1000) :
   Ret Tryz.prog F.num_Bytes #[.slice (some ⟨w.heap.size, 0, none⟩) 2 2] (w.alloc (.cells #[.slice a.a a.len a.cap, .slice b.a b.len b.cap] Ty.Sl_uint8)) (fun v w' => ∃ s' : Sl, v = .slice s'.a s'.len s'.cap ∧ OwnS 1 Ty.uint8 w' s' (u8s (la ++ lb)) ∧ Ext w w' ∧ Frs w s') := by
 have hx := ext_alloc w (.cells #[.slice a.a a.len a.cap, .slice b.a b.len b.cap] Ty.Sl_uint8)
 refine (num_BytesL (s := ⟨some ⟨w.heap.size, 0, none⟩, 2, 2⟩) [(a, la), (b, lb)] (Src.new w _ 2 rfl) ?_ (by simp [flatP]; omega) (by simp)).mono ?_
 · intro p hp
   simp only [List.mem_cons, List.not_mem_nil, or_false] at hp
   rcases hp with rfl | rfl
   · exact ha.ext hx
   · exact hb.ext hx
 · rintro _ w' ⟨s', rfl, ho, hx', hf⟩
   have e : flatP [(a, la), (b, lb)] = la ++ lb := by simp [flatP]
   rw [e] at ho
   exact ⟨s', rfl, ho, hx.trans hx', hf.mono hx.size⟩
theorem num_Bytes3 {w : World} {a b c : Sl} {la lb lc : List UInt8} (ha : Src 1 w a (u8s la)) (hb : Src 1 w b (u8s lb)) (hc : Src 1 w c (u8s lc)) (hl : la.length + lb.length + lc.length ≤ 1000) :
   Ret Tryz.prog F.num_Bytes #[.slice (some ⟨w.heap.size, 0, none⟩) 3 3] (w.alloc (.cells #[.slice a.a a.len a.cap, .slice b.a b.len b.cap, .slice c.a c.len c.cap] Ty.Sl_uint8)) (fun v w' => ∃ s' : Sl, v = .slice s'.a s'.len s'.cap ∧ OwnS 1 Ty.uint8 w' s' (u8s (la ++ (lb ++ lc))) ∧ Ext w w' ∧ Frs w s') := by
 have hx := ext_alloc w (.cells #[.slice a.a a.len a.cap, .slice b.a b.len b.cap, .slice c.a c.len c.cap] Ty.Sl_uint8)
 refine (num_BytesL (s := ⟨some ⟨w.heap.size, 0, none⟩, 3, 3⟩) [(a, la), (b, lb), (c, lc)] (Src.new w _ 3 rfl) ?_ (by simp [flatP]; omega) (by simp)).mono ?_
 · intro p hp
   simp only [List.mem_cons, List.not_mem_nil, or_false] at hp
   rcases hp with rfl | rfl | rfl
   · exact ha.ext hx
   · exact hb.ext hx
   · exact hc.ext hx
 · rintro _ w' ⟨s', rfl, ho, hx', hf⟩
   have e : flatP [(a, la), (b, lb), (c, lc)] = la ++ (lb ++ lc) := by simp [flatP]
   rw [e] at ho
   exact ⟨s', rfl, ho, hx.trans hx', hf.mono hx.size⟩
theorem lenRow (w : World) {n : Nat} (hn : n ≤ 255) : Src 1 (w.alloc (.cells #[.int .u8 (IntKind.wrap .u8 ((n : Nat) : Int))] Ty.uint8)) ⟨some ⟨w.heap.size, 0, none⟩, 1, 1⟩ (u8s [UInt8.ofNat n]) ∧ Ext w (w.alloc (.cells #[.int .u8 (IntKind.wrap .u8 ((n : Nat) : Int))] Ty.uint8)) := by
 have e : (#[.int .u8 (IntKind.wrap .u8 ((n : Nat) : Int))] : Array Value) = (u8s [UInt8.ofNat n]).toArray := by
   rw [wr8 (by omega) (by omega)]
   simp [u8s, Nat.mod_eq_of_lt (show n < 256 by omega)]
 rw [e]
 exact ⟨Src.new w _ 1 rfl, ext_alloc _ _⟩
theorem getD_lt {α : Type} {l : List α} {i : Nat} {d : α} (h : i < l.length) : l.getD i d = l[i] := by
 rw [List.getD_eq_getElem?_getD, List.getElem?_eq_getElem h]; rfl
theorem SoundN.valsAt {n : Nd} (h : SoundN n) (hl : n.leaf = true) : n.vals.length = n.keys.length := by
 rcases h with h | h
 · exact h.len
 · have := h.inner; rw [hl] at this; cases this
theorem SoundN.kidsAt {n : Nd} (h : SoundN n) (hl : n.leaf = false) : n.kids.length = n.keys.length + 1 := by
 rcases h with h | h
 · have := h.leaf; rw [hl] at this; cases this
 · exact h.len
theorem node_cell {B : Nat → Prop} {w : World} {n : Nd} {K V D : Sl} (h : NdAt B w n K V D) (hs : SoundN n) {i : Nat} (hi : i < n.keys.length) (hn : n.keys.length ≤ 100000) :
   Ret Tryz.prog F.node_cell #[ndV n K V D, .int .i64 ((i : Nat) : Int)] w (fun v w' => ∃ s : Sl, v = .slice s.a s.len s.cap ∧ OwnS 1 Ty.uint8 w' s (u8s (cellB n i)) ∧ Ext w w' ∧ Frs w s) := by
 refine W.node_cell_ok n.leaf K V D ((i : Nat) : Int) w _ ?_
 (delta W.node_cell nA r1 bd c12 r3 Br wI r2; dsimp only)
 refine nxVar (vs := [.bool n.leaf, .slice K.a K.len K.cap, .slice V.a V.len V.cap, .slice D.a D.len D.cap]) rfl fun w1 hv hx1 _ => ?_
 have hxd := ext_drew w1
 have hX2 := hx1.trans hxd
 have hn2 := h.ext hX2
 obtain ⟨c0, c1, c2, c3⟩ := ndCells (hv.ext hxd)
 obtain ⟨A, t, hA, hb, hc, ht, _⟩ := TxR.at hn2.keys hi
 have hko := (hs.keys.ok _ (List.getElem_mem hi)).2
 have htl := len8 ht.1
 obtain ⟨hr, hxr⟩ := lenRow w1.drew (n := t.len) (by omega)
 refine nx ⟨fun _ => False, id, K, c1, A, hA, hb, id, t, hc, id, K, c1, A, hA, hb, id, t, hc, nx ⟨hxr, nx ?_⟩⟩
 refine (num_Bytes2 (a := ⟨some ⟨w1.drew.heap.size, 0, none⟩, 1, 1⟩) (b := t) hr (ht.1.ext hxr) (by simp; omega)).use ?_
 rintro _ w3 ⟨s3, rfl, ho3, hx3, hf3⟩
 have hX3 := hxd.trans (hxr.trans hx3)
 obtain ⟨d0, d1, d2, d3⟩ := ndCells (hv.ext hX3)
 have hk : [UInt8.ofNat t.len] ++ n.keys[i] = lenB (n.keys.getD i []) := by rw [getD_lt hi, htl]; rfl
 rw [hk] at ho3
 have hn3 := h.ext (hx1.trans hX3)
 refine ⟨s3, rfl, n.leaf, d0, fun hl => ?_, fun hl => ?_⟩
 · have hvl := hs.valsAt hl
   have hiv : i < n.vals.length := by omega
   have hxe := ext_drew w3
   have hn4 := hn3.ext hxe
   obtain ⟨e0, e1, e2, e3⟩ := ndCells (hv.ext (hX3.trans hxe))
   obtain ⟨A2, t2, hA2, hb2, hc2, ht2, _⟩ := TxR.at hn4.vals hiv
   have hvo := hs.vals _ (List.getElem_mem hiv)
   have ht2l := len8 ht2.1
   obtain ⟨hr2, hxr2⟩ := lenRow w3.drew (n := t2.len) (by omega)
   refine nx ⟨fun _ => False, id, V, e2, A2, hA2, hb2, id, t2, hc2, id, V, e2, A2, hA2, hb2, id, t2, hc2, nx ⟨hxr2, nx ?_⟩⟩
   refine (num_Bytes3 (a := s3) (b := ⟨some ⟨w3.drew.heap.size, 0, none⟩, 1, 1⟩) (c := t2) (ho3.src.ext (hxe.trans hxr2)) hr2 (ht2.1.ext hxr2) (by rw [lenB_length, getD_lt hi]; simp; omega)).use ?_
   rintro _ w4 ⟨s4, rfl, ho4, hx4, hf4⟩
   refine ⟨s4, rfl, s4, rfl, ?_, (hx1.trans hX3).trans (hxe.trans (hxr2.trans hx4)), hf4.mono ((hx1.trans hX3).trans (hxe.trans hxr2)).size⟩
   have : lenB (n.keys.getD i []) ++ ([UInt8.ofNat t2.len] ++ n.vals[i]) = cellB n i := by
     unfold cellB
     rw [hl, if_pos rfl, getD_lt hiv, ht2l]; rfl
   rwa [this] at ho4
 · have hkl := hs.kidsAt hl
   have hik : i + 1 < n.kids.length := by omega
   obtain ⟨A2, hA2, hb2, hc2⟩ := InR.at hn3.kids hik
   have hko2 := hs.kids _ (List.getElem_mem hik)
   rw [wrapi (n := (i : Int) + 1) (by omega) (by omega), show (i : Int) + 1 = ((i + 1 : Nat) : Int) by omega]
   refine ⟨D, d3, A2, hA2, hb2, _, hc2, ?_⟩
   rw [wr64 (n := ((n.kids[i + 1] : Nat) : Int)) (by omega) (by omega)]
   refine (num_Put ho3.src (n := n.kids[i + 1]) (k := 2) (by rw [lenB_length, getD_lt hi]; omega) (by show _ < 18446744073709551616; omega) ⟨by decide, by decide⟩).use ?_
   rintro _ w4 ⟨s4, rfl, ho4, hx4, hf4⟩
   refine ⟨s4, rfl, s4, rfl, ?_, (hx1.trans hX3).trans hx4, Frs.mono hf4 (hx1.trans hX3).size⟩
   have : lenB (n.keys.getD i []) ++ beB n.kids[i + 1] 2 = cellB n i := by
     unfold cellB
     rw [hl, if_neg (by simp), getD_lt hik]
   rwa [this] at ho4
theorem cell_le {n : Nd} (hs : SoundN n) {i : Nat} (hi : i < n.keys.length) : (cellB n i).length ≤ 100 := by
 unfold cellB
 have := (hs.keys.ok _ (List.getElem_mem hi)).2
 rw [List.length_append, lenB_length, getD_lt hi]
 split
 · rename_i hl
   have hiv : i < n.vals.length := by have := hs.valsAt hl; omega
   have := hs.vals _ (List.getElem_mem hiv)
   rw [lenB_length, getD_lt hiv]; omega
 · rw [beB_length]; omega
theorem cells_le {n : Nd} (hs : SoundN n) : ∀ m, m ≤ n.keys.length → (cellsFrom n 0 m).length ≤ 100 * m
 | 0, _ => by simp [cellsFrom]
 | m + 1, hm => by
   have := cells_le hs m (by omega)
   have := cell_le hs (i := m) (by omega)
   rw [cellsFrom_snoc, List.length_append]; omega
theorem node_written {B : Nat → Prop} {w : World} {n : Nd} {K V D : Sl} (h : NdAt B w n K V D) (hs : SoundN n) (hn : n.keys.length ≤ 255) :
   Ret Tryz.prog F.node_written #[ndV n K V D] w (fun v w' => ∃ s : Sl, v = .slice s.a s.len s.cap ∧ OwnS 1 Ty.uint8 w' s (u8s (encN n)) ∧ Ext w w' ∧ Frs w s) := by
 refine W.node_written_ok n.leaf K V D w _ ?_
 (delta W.node_written r1 nA r3 Br bd r2 c12 wI; dsimp only)
 refine nxVar (vs := [.bool n.leaf, .slice K.a K.len K.cap, .slice V.a V.len V.cap, .slice D.a D.len D.cap]) rfl fun w1 hv hx1 _ => ?_
 obtain ⟨c0, c1, c2, c3⟩ := ndCells hv
 have hn1 := h.ext hx1
 have lk := TxR.len hn1.keys
 have e0 : (#[.int .u8 (IntKind.wrap .u8 ((K.len : Nat) : Int))] : Array Value) = (u8s [UInt8.ofNat n.keys.length]).toArray := by
   rw [lk, wr8 (by omega) (by omega)]
   simp [u8s, Nat.mod_eq_of_lt (show n.keys.length < 256 by omega)]
 refine ⟨K, c1, ?_⟩
 rw [e0]
 have ho2 := OwnS.new (T := Ty.uint8) (sz := 1) w1 (u8s [UInt8.ofNat n.keys.length]) 1 rfl (by decide)
 have hx2 := ext_alloc w1 (.cells (u8s [UInt8.ofNat n.keys.length]).toArray Ty.uint8)
 obtain ⟨w2, hw2⟩ : ∃ w2, w2 = w1.alloc (.cells (u8s [UInt8.ofNat n.keys.length]).toArray Ty.uint8) := ⟨_, rfl⟩
 rw [← hw2] at ho2 hx2 ⊢
 obtain ⟨d0, d1, d2, d3⟩ := ndCells (hv.ext hx2)
 have hX2 := hx1.trans hx2
 refine nx (Jn1 (fun s' w' => OwnS 1 Ty.uint8 w' s' (u8s (preB n)) ∧ Ext w2 w' ∧ Frs w1 s') (fun q hq => ⟨n.leaf, d0, fun hl => ?_, fun hl => hq _ _ ⟨?_, .refl _ _, ?_⟩⟩) ?_)
 · have hl : n.leaf = false := by simpa using hl
   have hkl := hs.kidsAt hl
   have hik : 0 < n.kids.length := by omega
   obtain ⟨A2, hA2, hb2, hc2⟩ := InR.at (h.ext hX2).kids hik
   have hko2 := hs.kids _ (List.getElem_mem hik)
   refine ⟨D, d3, A2, hA2, hb2, _, hc2, ?_⟩
   rw [wr64 (n := ((n.kids[0] : Nat) : Int)) (by omega) (by omega)]
   refine (num_Put ho2.src (n := n.kids[0]) (k := 2) (by simp) (by show _ < 18446744073709551616; omega) ⟨by decide, by decide⟩).use ?_
   rintro _ w4 ⟨s4, rfl, ho4, hx4, hf4⟩
   refine ⟨s4, rfl, hq _ _ ⟨?_, hx4, Frs.mono hf4 hx2.size⟩⟩
   have : [UInt8.ofNat n.keys.length] ++ beB n.kids[0] 2 = preB n := by
     unfold preB
     rw [hl, if_neg (by simp), getD_lt hik]; rfl
   rwa [this] at ho4
 · have hl : n.leaf = true := by simpa using hl
   have : preB n = [UInt8.ofNat n.keys.length] := by unfold preB; rw [hl]; rfl
   rw [this]; exact ho2
 · rintro k ⟨A, hA, rfl⟩
   cases hA
   exact Nat.le_refl _
 rintro s3 w3 ⟨ho3, hx3, hf3⟩
 have hX3 := hx2.trans hx3
 obtain ⟨d0, d1, d2, d3⟩ := ndCells (hv.ext hX3)
 have hpre : (preB n).length ≤ 3 := by
   unfold preB
   cases n.leaf <;> simp [beB_length]
 refine ⟨K, d1, fun s' i w' => ∃ j : Nat, i = j ∧ j ≤ n.keys.length ∧ OwnS 1 Ty.uint8 w' s' (u8s (preB n ++ cellsFrom n 0 j)) ∧ Ext w1 w' ∧ Frs w1 s', fun _ i _ => ((n.keys.length : Int) - i).toNat, ⟨0, rfl, Nat.zero_le _, by simpa [cellsFrom] using ho3, hX3, hf3⟩, ?_⟩
 rintro s4 _ w4 ⟨j, rfl, hj, ho4, hx4, hf4⟩
 refine ⟨fun hlt => ?_, fun hge => ?_⟩
 · have hlt : j < n.keys.length := by have := of_decide_eq_true hlt; omega
   obtain ⟨f0, f1, f2, f3⟩ := ndCells (hv.ext hx4)
   refine ⟨n.leaf, f0, K, f1, V, f2, D, f3, (node_cell (hn1.ext hx4) hs hlt (by omega)).use ?_⟩
   rintro _ w5 ⟨s5, rfl, ho5, hx5, hf5⟩
   have l4 := len8O ho4
   have l5 := len8O ho5
   have b1 := cell_le hs hlt
   have b2 := cells_le hs j hj
   rw [List.length_append] at l4
   obtain ⟨s6, w6, g1, g2, g3, g4, g5⟩ := appByte.append (oT := Ty.Sl_uint8) ho5.src (ho4.ext hx5) (u8s_plain _) (by rw [l4, l5]; omega)
   rw [wrapi (n := (j : Int) + 1) (by omega) (by omega)]
   refine ⟨s5, rfl, s6, w6, g1, ⟨j + 1, by omega, by omega, ?_, Ext.of_new (hx4.trans hx5) g4 hf4, fun k hk => ?_⟩, ?_⟩
   · rw [cellsFrom_snoc, ← List.append_assoc, u8s_append]; exact g2
   · rcases g5 k hk with h | h
     · exact hf4 k h
     · exact Nat.le_trans (hx4.trans hx5).size h
   · show ((n.keys.length : Int) - ((j : Int) + 1)).toNat < ((n.keys.length : Int) - (j : Int)).toNat
     omega
 · have hge : j = n.keys.length := by have := of_decide_eq_false hge; omega
   subst hge
   exact ⟨s4, rfl, ho4, hx1.trans hx4, hf4.mono hx1.size⟩
theorem node_Size {B : Nat → Prop} {w : World} {n : Nd} {K V D : Sl} (h : NdAt B w n K V D) (hs : SoundN n) (hn : n.keys.length ≤ 255) :
   Ret Tryz.prog F.node_Size #[ndV n K V D] w (fun v w' => v = .int .i64 (nsize n : Nat) ∧ Ext w w') := by
 have hvl : n.vals.length ≤ 100000 := by
   rcases hs with hs | hs
   · rw [hs.len]; omega
   · rw [hs.vals]; simp
 have hdl : n.kids.length ≤ 100000 := by
   rcases hs with hs | hs
   · rw [hs.kids]; simp
   · rw [hs.len]; omega
 refine W.node_Size_ok n.leaf K V D w _ ?_
 (delta W.node_Size r3 nA r1 c3 Br c12; dsimp only)
 refine nxVar (vs := [.bool n.leaf, .slice K.a K.len K.cap, .slice V.a V.len V.cap, .slice D.a D.len D.cap]) rfl fun w1 hv hx1 _ => ?_
 obtain ⟨c0, c1, c2, c3⟩ := ndCells hv
 refine ⟨n.leaf, c0, K, c1, V, c2, D, c3, (node_sound (h.ext hx1) (by omega) hvl hdl).use ?_⟩
 rintro _ w2 ⟨b, rfl, hb, hx2⟩
 have hbt := hb.2 hs
 subst hbt
 obtain ⟨c0, c1, c2, c3⟩ := ndCells (hv.ext hx2)
 refine ⟨true, rfl, fun h => (by cases h), fun _ => ⟨n.leaf, c0, K, c1, V, c2, D, c3, (node_written (h.ext (hx1.trans hx2)) hs hn).use ?_⟩⟩
 rintro _ w3 ⟨s3, rfl, ho3, hx3, _⟩
 have hl := len8O ho3
 rw [encN_length hs] at hl
 exact ⟨s3, rfl, by rw [hl], (hx1.trans hx2).trans hx3⟩
def EncV (n : Nd) (w w' : World) (v : Value) : Prop :=
 (∃ s : Sl, v = .tuple #[.slice s.a s.len s.cap, .int .i64 0] ∧ OwnS 1 Ty.uint8 w' s (u8s (encN n)) ∧ Frs w s ∧ SoundN n ∧ nsize n ≤ 232) ∨
 (∃ e : Int, v = .tuple #[.slice none 0 0, .int .i64 e] ∧ e ≠ 0 ∧ (SoundN n → 232 < nsize n))
theorem node_encode {B : Nat → Prop} {w : World} {n : Nd} {K V D : Sl} (h : NdAt B w n K V D) (hkl : n.keys.length ≤ 100000) (hvl : n.vals.length ≤ 100000) (hdl : n.kids.length ≤ 100000) :
   Ret Tryz.prog F.node_encode #[ndV n K V D] w (fun v w' => EncV n w w' v ∧ Ext w w') := by
 refine W.node_encode_ok n.leaf K V D w _ ?_
 (delta W.node_encode r3 nA r1 c3 Br c12; dsimp only)
 refine nxVar (vs := [.bool n.leaf, .slice K.a K.len K.cap, .slice V.a V.len V.cap, .slice D.a D.len D.cap]) rfl fun w1 hv hx1 _ => ?_
 obtain ⟨c0, c1, c2, c3⟩ := ndCells hv
 refine ⟨n.leaf, c0, K, c1, V, c2, D, c3, (node_sound (h.ext hx1) hkl hvl hdl).use ?_⟩
 rintro _ w2 ⟨b, rfl, hb, hx2⟩
 have hX2 := hx1.trans hx2
 obtain ⟨c0, c1, c2, c3⟩ := ndCells (hv.ext hx2)
 have lk := TxR.len h.keys
 refine ⟨b, rfl, Jn1 (fun c w' => w2 = w' ∧ (c = true → SoundN n → 255 < n.keys.length) ∧ (c = false → SoundN n ∧ n.keys.length ≤ 255)) (fun q hq => ⟨fun h1 => hq _ _ ⟨rfl, fun _ hs => ?_, fun h => (by cases h)⟩, fun h1 => ⟨K, c1, hq _ _ ⟨rfl, fun h2 hs => ?_, fun h2 => ?_⟩⟩⟩) ?_⟩
 · have h1 : b = false := by simpa using h1
   rw [hb.2 hs] at h1; cases h1
 · have := of_decide_eq_true h2; omega
 · have h1 : b = true := by simpa using h1
   have := of_decide_eq_false h2
   exact ⟨hb.1 h1, by omega⟩
 rintro c w' ⟨rfl, g1, g2⟩
 refine ⟨fun h1 => ⟨.inr ⟨4, rfl, by decide, fun hs => ?_⟩, hX2⟩, fun h1 => ?_⟩
 · have := g1 h1 hs
   have := keys_few hs
   omega
 obtain ⟨hs, hk⟩ := g2 h1
 refine ⟨n.leaf, c0, K, c1, V, c2, D, c3, (node_written (h.ext hX2) hs hk).use ?_⟩
 rintro _ w3 ⟨s3, rfl, ho3, hx3, hf3⟩
 have hl := len8O ho3
 rw [encN_length hs] at hl
 refine ⟨s3, rfl, fun h2 => ⟨.inr ⟨10, rfl, by decide, fun _ => ?_⟩, hX2.trans hx3⟩, fun h2 => ⟨.inl ⟨s3, rfl, ho3, hf3.mono hX2.size, hs, ?_⟩, hX2.trans hx3⟩⟩
 · have := of_decide_eq_true h2; omega
 · have := of_decide_eq_false h2; omega
theorem node_Encode {B : Nat → Prop} {w : World} {n : Nd} {K V D : Sl} (h : NdAt B w n K V D) (hkl : n.keys.length ≤ 100000) (hvl : n.vals.length ≤ 100000) (hdl : n.kids.length ≤ 100000) :
   Ret Tryz.prog F.node_Encode #[ndV n K V D] w (fun v w' => EncV n w w' v ∧ Ext w w') := by
 refine W.node_Encode_ok n.leaf K V D w _ ?_
 (delta W.node_Encode r3 nA r1 c4; dsimp only)
 refine nxVar (vs := [.bool n.leaf, .slice K.a K.len K.cap, .slice V.a V.len V.cap, .slice D.a D.len D.cap]) rfl fun w1 hv hx1 _ => ?_
 obtain ⟨c0, c1, c2, c3⟩ := ndCells hv
 refine ⟨n.leaf, c0, K, c1, V, c2, D, c3, (node_encode (h.ext hx1) hkl hvl hdl).use ?_⟩
 rintro _ w2 ⟨hv2, hx2⟩
 rcases hv2 with ⟨s, rfl, ho, hf, hs, hn⟩ | ⟨e, rfl, he, hn⟩
 · exact ⟨s, 0, rfl, .inl ⟨s, rfl, ho, hf.mono hx1.size, hs, hn⟩, hx1.trans hx2⟩
 · exact ⟨⟨none, 0, 0⟩, e, rfl, .inr ⟨e, rfl, he, hn⟩, hx1.trans hx2⟩
end Go.Proofs.YtplieiecebljmaaGreat
namespace Go.Proofs.YtplieiecebljmaaGreat
open Go Gx
theorem varSet {w : World} {b i : Nat} {vs : List Value} {T : TypeId} (h : Var w b vs T) (v : Value) : Var (w.setCell ⟨b, i, none⟩ v) b (vs.set i v) T := by
 have := Blk.set h i v
 have e : vs.toArray.setIfInBounds i v = (vs.set i v).toArray := by simp
 rw [e] at this
 exact this
theorem setOk {w : World} {b i : Nat} {vs : List Value} {T : TypeId} (h : Var w b vs T) (hi : i < vs.length) : (∃ u : Value, w.cell? ⟨b, i, none⟩ = some u) ∧ w.frozen? ⟨b, i, none⟩ = false :=
 ⟨⟨vs[i], by rw [h.cell]; simp [hi]⟩, Blk.frozen h _ rfl⟩
theorem chgSet (w : World) (b i : Nat) (v : Value) : Chg (fun q => q = b) w (w.setCell ⟨b, i, none⟩ v) := Chg.cellB (.refl _ _) v
structure RdAt (w : World) (r : Nat) (s : Sl) (rd : Rd) : Prop where
 v : Var w r [.slice s.a s.len s.cap, .bool rd.2] Ty.node_reader
 src : Src 1 w s (u8s rd.1)
 le : s.len ≤ s.cap
 ne : ∀ k, ownB s k → k ≠ r
theorem RdAt.chg {W : Nat → Prop} {w w' : World} {r : Nat} {s : Sl} {rd : Rd} (h : RdAt w r s rd) (hc : Chg W w w') (h1 : ¬ W r) (h2 : ∀ k, ownB s k → ¬ W k) : RdAt w' r s rd := ⟨h.v.chg hc h1, h.src.chg hc h2, h.le, h.ne⟩
theorem RdAt.ext {w w' : World} {r : Nat} {s : Sl} {rd : Rd} (h : RdAt w r s rd) (hc : Ext w w') : RdAt w' r s rd := RdAt.chg h hc id fun _ _ h => h
theorem ownB_cut {a : Option Addr} {z l m n c k : Nat} (h : ownB ⟨cutA a z l m, n, c⟩ k) : ∃ A, a = some A ∧ A.block = k := by
 obtain ⟨A, hA, rfl⟩ := h
 unfold cutA at hA
 split at hA
 · exact ⟨A, hA, rfl⟩
 · cases ha : a with
   | none => rw [ha] at hA; cases hA
   | some A0 =>
     rw [ha] at hA
     simp only [Option.map_some, Option.some.injEq] at hA
     exact ⟨A0, rfl, by subst hA; unfold Addr.add; split <;> rfl⟩
theorem reader_take {w : World} {r : Nat} {s : Sl} {rd : Rd} (h : RdAt w r s rd) (k : Nat) (hk : k ≤ 100000) (hl : rd.1.length ≤ 100000) :
   Ret Tryz.prog F.node_reader_take #[.pointer (some ⟨r, 0, none⟩), .int .i64 ((k : Nat) : Int)] w (fun v w' => ∃ t s' : Sl, v = .slice t.a t.len t.cap ∧ Tx (fun q => w.heap.size ≤ q) w' t (rdTake rd k).1 ∧ RdAt w' r s' (rdTake rd k).2 ∧ Chg (fun q => q = r) w w' ∧ (∀ q, ownB s' q → ownB s q)) := by
 obtain ⟨l, ok⟩ := rd
 have hv := h.v
 have hsl := len8 h.src
 simp only at hsl hl hv
 have hlt := hv.lt
 refine W.node_reader_take_ok (some ⟨r, 0, none⟩) ((k : Nat) : Int) w _ ?_
 (delta W.node_reader_take r3 Br r1 st c12; dsimp only)
 refine ⟨_, rfl, ok, by rw [add_mk]; exact hv.cell, Jn1 (fun b w' => w = w' ∧ b = decide (ok = false ∨ l.length < k)) (fun q hq => ⟨fun h1 => hq _ _ ⟨rfl, ?_⟩, fun h1 => ⟨_, rfl, s, hv.cell, hq _ _ ⟨rfl, ?_⟩⟩⟩) ?_⟩
 · have h1 : ok = false := by simpa using h1
   exact (decide_eq_true (.inl h1)).symm
 · have h1 : ok = true := by simpa using h1
   subst h1
   rw [Bool.eq_iff_iff, decide_eq_true_eq, decide_eq_true_eq]
   constructor
   · intro h; exact .inr (by omega)
   · rintro (h | h)
     · cases h
     · omega
 rintro b w' ⟨rfl, rfl⟩
 refine ⟨fun hb => ⟨_, rfl, ?_⟩, fun hb => ⟨_, rfl, s, hv.cell, ?_⟩⟩
 · have hb := of_decide_eq_true hb
   obtain ⟨g1, g2⟩ := setOk hv (i := 1) (by simp)
   rw [add_mk]
   have hc := chgSet w r 1 (.bool false)
   have e : rdTake (l, ok) k = ([], (l, false)) := by unfold rdTake; rw [if_pos hb]
   rw [e]
   refine ⟨g1, g2, nx ⟨⟨none, 0, 0⟩, s, rfl, ⟨(OwnS.none 1 Ty.uint8 _).src, Nat.le_refl _, fun q hq => (ownB_none q hq).elim⟩, ⟨varSet hv _, h.src.chg hc fun q hq => h.ne q hq, h.le, h.ne⟩, hc, fun q hq => hq⟩⟩
 · have hb := of_decide_eq_false hb
   have e : rdTake (l, ok) k = (l.take k, (l.drop k, true)) := by unfold rdTake; rw [if_neg hb]
   have hkl : k ≤ l.length := by
     rcases Nat.lt_or_ge l.length k with h1 | h1
     · exact absurd (.inr h1) hb
     · exact h1
   have hok : ok = true := by
     cases ok with
     | true => rfl
     | false => exact absurd (.inl rfl) hb
   subst hok
   rw [e]
   have hle := h.le
   refine ⟨⟨by omega, by omega⟩, ?_⟩
   have hsub := sub8 h.src h.le (lo := 0) (hi := k) (by omega) (by omega)
   rw [List.drop_zero, Nat.sub_zero] at hsub
   rw [Int.toNat_natCast, Nat.sub_zero]
   refine (cloneTx (B := fun q => w.heap.size ≤ q) (s := ⟨cutA s.a 1 0 s.cap, k, s.cap - 0⟩) hsub (by rw [List.length_take]; omega) (fun q hq => hq)).use ?_
   rintro _ w1 ⟨t, rfl, ht, hx1, hf1⟩
   have hv1 := hv.ext hx1
   obtain ⟨g1, g2⟩ := setOk hv1 (i := 0) (by simp)
   have hc := chgSet w1 r 0 (.slice (cutA s.a 1 k s.cap) (s.len - k) (s.cap - k))
   have hrest := sub8 (h.src.ext hx1) h.le (lo := k) (hi := s.len) (by omega) (Nat.le_refl _)
   rw [List.take_of_length_le (l := l.drop k) (by rw [List.length_drop]; omega)] at hrest
   have hne : ∀ q, ownB ⟨cutA s.a 1 k s.cap, s.len - k, s.cap - k⟩ q → q ≠ r := fun q hq => by
     obtain ⟨A, hA, hb⟩ := ownB_cut hq
     exact h.ne q ⟨A, hA, hb⟩
   refine ⟨t, rfl, _, rfl, s, hv1.cell, ⟨by omega, by omega⟩, _, rfl, g1, g2, nx ⟨t, ⟨cutA s.a 1 k s.cap, s.len - k, s.cap - k⟩, rfl, Tx.chg ht hc (fun q hq e => by subst e; omega), ⟨varSet hv1 _, hrest.chg hc fun q hq => hne q hq, by show s.len - k ≤ s.cap - k; omega, hne⟩, (Chg.of_ext hx1).trans hc, fun q hq => ?_⟩⟩
   obtain ⟨A, hA, hb⟩ := ownB_cut hq
   exact ⟨A, hA, hb⟩
theorem reader_number {w : World} {r : Nat} {s : Sl} {rd : Rd} (h : RdAt w r s rd) (k : Nat) (hk : 1 ≤ k ∧ k ≤ 2) (hl : rd.1.length ≤ 100000) :
   Ret Tryz.prog F.node_reader_number #[.pointer (some ⟨r, 0, none⟩), .int .i64 ((k : Nat) : Int)] w (fun v w' => ∃ s' : Sl, v = .int .i64 ((rdNum rd k).1 : Nat) ∧ RdAt w' r s' (rdNum rd k).2 ∧ Chg (fun q => q = r) w w' ∧ (∀ q, ownB s' q → ownB s q)) := by
 refine W.node_reader_number_ok (some ⟨r, 0, none⟩) ((k : Nat) : Int) w _ ?_
 (delta W.node_reader_number c12 c18 wI; dsimp only)
 refine (reader_take h k (by omega) hl).use ?_
 rintro _ w1 ⟨t, s', rfl, ht, hr, hc, ho⟩
 have hlen : (rdTake rd k).1.length = k ∨ (rdTake rd k).1 = [] := by
   unfold rdTake
   split
   · exact .inr rfl
   · rename_i hh
     left
     rw [List.length_take]
     have : ¬ rd.1.length < k := fun h => hh (.inr h)
     omega
 have hb := beN_lt k (rdTake rd k).1
 have hp : 256 ^ k ≤ 65536 := Nat.le_trans (Nat.pow_le_pow_right (by omega) hk.2) (by decide)
 refine ⟨t, rfl, ?_⟩
 rcases hlen with hlen | hlen
 · refine (num_Get (a := 0) (k := k) ht.1 ht.2.1 ⟨hk.1, by omega⟩ (by omega) (by omega)).use ?_
   rintro _ _ ⟨rfl, rfl⟩
   have hb := hb hlen
   rw [List.drop_zero, List.take_of_length_le (by omega)]
   refine ⟨_, _, rfl, s', ?_, hr, hc, ho⟩
   rw [wrapi (by omega) (by omega)]
   unfold rdNum
   rw [if_pos hlen]
 · refine (num_Get_out (k := k) ht.1 (by omega) (by rw [hlen]; simp; omega)).use ?_
   rintro _ _ ⟨rfl, rfl⟩
   refine ⟨_, _, rfl, s', ?_, hr, hc, ho⟩
   unfold rdNum
   rw [if_neg (by rw [hlen]; simp; omega)]
   rfl
theorem rdNum_lt (rd : Rd) (k : Nat) : (rdNum rd k).1 < 256 ^ k := by
 unfold rdNum
 split
 · exact beN_lt k _ (by assumption)
 · exact Nat.pow_pos (by omega)
theorem rdTake_len (rd : Rd) (k : Nat) : (rdTake rd k).2.1.length ≤ rd.1.length ∧ (rdTake rd k).1.length ≤ k := by
 unfold rdTake
 split
 · exact ⟨Nat.le_refl _, Nat.zero_le _⟩
 · exact ⟨by rw [List.length_drop]; omega, by rw [List.length_take]; omega⟩
theorem rdNum_len (rd : Rd) (k : Nat) : (rdNum rd k).2.1.length ≤ rd.1.length := (rdTake_len rd k).1
theorem rdText_len (rd : Rd) : (rdText rd).2.1.length ≤ rd.1.length ∧ (rdText rd).1.length ≤ 255 := by
 unfold rdText
 have h1 := rdTake_len (rdNum rd 1).2 (rdNum rd 1).1
 have h2 := rdNum_len rd 1
 have h3 : (rdNum rd 1).1 < 256 := rdNum_lt rd 1
 exact ⟨by omega, by omega⟩
theorem reader_text {w : World} {r : Nat} {s : Sl} {rd : Rd} (h : RdAt w r s rd) (hl : rd.1.length ≤ 100000) :
   Ret Tryz.prog F.node_reader_text #[.pointer (some ⟨r, 0, none⟩)] w (fun v w' => ∃ t s' : Sl, v = .slice t.a t.len t.cap ∧ Tx (fun q => w.heap.size ≤ q) w' t (rdText rd).1 ∧ RdAt w' r s' (rdText rd).2 ∧ Chg (fun q => q = r) w w' ∧ (∀ q, ownB s' q → ownB s q)) := by
 refine W.node_reader_text_ok (some ⟨r, 0, none⟩) w _ ?_
 (delta W.node_reader_text c2 c12; dsimp only)
 refine (reader_number h 1 (by omega) hl).use ?_
 rintro _ w1 ⟨s1, rfl, hr1, hc1, ho1⟩
 have h3 : (rdNum rd 1).1 < 256 := rdNum_lt rd 1
 have h4 := rdNum_len rd 1
 refine ⟨_, rfl, (reader_take hr1 (rdNum rd 1).1 (by omega) (by omega)).use ?_⟩
 rintro _ w2 ⟨t, s2, rfl, ht, hr2, hc2, ho2⟩
 exact ⟨t, rfl, t, s2, rfl, Tx.weak ht fun q _ hq => Nat.le_trans hc1.size hq, hr2, hc1.trans hc2, fun q hq => ho1 q (ho2 q hq)⟩
end Go.Proofs.YtplieiecebljmaaGreat
namespace Go.Proofs.YtplieiecebljmaaGreat
open Go Gx
theorem TxO.weak {B C : Nat → Prop} {w : World} {s : Sl} {ls : List Key} (h : TxO B w s ls) (hb : ∀ k, k < w.heap.size → B k → C k) : TxO C w s ls := by
 obtain ⟨ts, h1, h2, h3, h4⟩ := h
 exact ⟨ts, h1, h2, In.weak h3 hb, fun i h6 h7 => ⟨Tx.weak (h4 i h6 h7).1 hb, (h4 i h6 h7).2⟩⟩
theorem InO.weak {B C : Nat → Prop} {w : World} {s : Sl} {ds : List Nat} (h : InO B w s ds) (hb : ∀ k, k < w.heap.size → B k → C k) : InO C w s ds := ⟨h.1, In.weak h.2 hb⟩
def Grow (B : Nat → Prop) (w w' : World) (q : Nat) : Prop := B q ∨ (w.heap.size ≤ q ∧ q < w'.heap.size)
theorem pushSeg {w : World} {nb o : Nat} {vs : List Value} {S t : Sl} {ls : List Key} {l : Key} {B : Nat → Prop} {T : TypeId} {W : Nat → Prop} (hv : Var w nb vs T) (hov : o < vs.length) (hS : TxO B w S ls) (hBn : ¬ B nb)
   (ht : Tx B w t l) (hd : ∀ k, ownB t k → ¬ ownB S k) (hn : ls.length ≤ 100000) {K : World → Prop}
   (hK : ∀ (w' : World) (S' : Sl), Var w' nb (vs.set o (.slice S'.a S'.len S'.cap)) T → TxO (Grow B w w') w' S' (ls ++ [l]) → Chg (fun q => q = nb ∨ ownB S q) w w' → K w') :
   Nx (w.alloc (.cells #[.slice t.a t.len t.cap] Ty.Sl_uint8)) fun w31 => Chg W w w31 ∧ ∃ s32 : Sl, ∃ w33 : World, Sem.run Tryz.prog (Builtin.append_ #[Ty.Sl_Sl_uint8, Ty.Sl_Sl_uint8] Ty.Sl_Sl_uint8 #[.slice S.a S.len S.cap, .slice (some ⟨w.heap.size, 0, none⟩) 1 1]) w31 = .ok (.slice s32.a s32.len s32.cap) w33 ∧
     (∃ u : Value, w33.cell? (Addr.add ⟨nb, 0, none⟩ o) = some u) ∧ w33.frozen? (Addr.add ⟨nb, 0, none⟩ o) = false ∧ Nx (w33.setCell (Addr.add ⟨nb, 0, none⟩ o) (.slice s32.a s32.len s32.cap)) fun w34 => K w34 := by
 have hS2 := TxO.weak (C := fun q => B q ∨ w.heap.size ≤ q) hS fun k _ h => .inl h
 have ht2 := Tx.weak (C := fun q => B q ∨ w.heap.size ≤ q) ht fun k _ h => .inl h
 obtain ⟨s', w', g1, g2, g3, g4⟩ := pushTx hS2 ht2 hd (by omega) fun k hk => .inr hk
 have hnb := hv.lt
 have hSn : ¬ ownB S nb := fun h => by
   obtain ⟨ts, _, _, h3, _⟩ := hS
   exact hBn (h3 nb h).1
 have hv' := hv.chg g3 hSn
 obtain ⟨c1, c2⟩ := setOk hv' hov
 refine nx ⟨Chg.of_ext (ext_alloc _ _), s', w', g1, ?_⟩
 rw [add_mk, Nat.zero_add]
 have hc := chgSet w' nb o (.slice s'.a s'.len s'.cap)
 refine ⟨c1, c2, nx (hK _ s' (varSet hv' _) ?_ ?_)⟩
 · have h5 := TxO.weak (C := Grow B w (w'.setCell ⟨nb, o, none⟩ (.slice s'.a s'.len s'.cap))) g2 fun k hk h => by
     rcases h with h | h
     · exact .inl h
     · exact .inr ⟨h, Nat.lt_of_lt_of_le hk hc.size⟩
   refine TxO.chg h5 hc fun k hk e => ?_
   subst e
   rcases hk with h | h
   · exact hBn h
   · omega
 · exact (g3.mono fun k _ h => .inr h).trans (hc.mono fun k _ h => .inl h)
theorem pushSegI {w : World} {nb o : Nat} {vs : List Value} {S : Sl} {ds : List Nat} (d : Nat) {B : Nat → Prop} {T : TypeId} {W : Nat → Prop} (hv : Var w nb vs T) (hov : o < vs.length) (hS : InO B w S ds) (hBn : ¬ B nb)
   (hn : ds.length ≤ 100000) {K : World → Prop}
   (hK : ∀ (w' : World) (S' : Sl), Var w' nb (vs.set o (.slice S'.a S'.len S'.cap)) T → InO (Grow B w w') w' S' (ds ++ [d]) → Chg (fun q => q = nb ∨ ownB S q) w w' → K w') :
   Nx (w.alloc (.cells #[.int .i64 ((d : Nat) : Int)] Ty.int)) fun w31 => Chg W w w31 ∧ ∃ s32 : Sl, ∃ w33 : World, Sem.run Tryz.prog (Builtin.append_ #[Ty.Sl_int, Ty.Sl_int] Ty.Sl_int #[.slice S.a S.len S.cap, .slice (some ⟨w.heap.size, 0, none⟩) 1 1]) w31 = .ok (.slice s32.a s32.len s32.cap) w33 ∧
     (∃ u : Value, w33.cell? (Addr.add ⟨nb, 0, none⟩ o) = some u) ∧ w33.frozen? (Addr.add ⟨nb, 0, none⟩ o) = false ∧ Nx (w33.setCell (Addr.add ⟨nb, 0, none⟩ o) (.slice s32.a s32.len s32.cap)) fun w34 => K w34 := by
 have hS2 := InO.weak (C := fun q => B q ∨ w.heap.size ≤ q) hS fun k _ h => .inl h
 obtain ⟨s', w', g1, g2, g3, g4⟩ := pushInt d hS2 (by omega) fun k hk => .inr hk
 have hnb := hv.lt
 have hSn : ¬ ownB S nb := fun h => hBn (hS.2 nb h).1
 have hv' := hv.chg g3 hSn
 obtain ⟨c1, c2⟩ := setOk hv' hov
 refine nx ⟨Chg.of_ext (ext_alloc _ _), s', w', g1, ?_⟩
 rw [add_mk, Nat.zero_add]
 have hc := chgSet w' nb o (.slice s'.a s'.len s'.cap)
 refine ⟨c1, c2, nx (hK _ s' (varSet hv' _) ?_ ?_)⟩
 · have h5 := InO.weak (C := Grow B w (w'.setCell ⟨nb, o, none⟩ (.slice s'.a s'.len s'.cap))) g2 fun k hk h => by
     rcases h with h | h
     · exact .inl h
     · exact .inr ⟨h, Nat.lt_of_lt_of_le hk hc.size⟩
   refine InO.chg h5 hc fun k hk e => ?_
   subst e
   rcases hk with h | h
   · exact hBn h
   · omega
 · exact (g3.mono fun k _ h => .inr h).trans (hc.mono fun k _ h => .inl h)
structure DecSt (lo : Nat) (w : World) (r nb : Nat) (s : Sl) (m : Nd × Rd) (K V D : Sl) (BK BV BD : Nat → Prop) : Prop where
 v : Var w nb [.bool m.1.leaf, .slice K.a K.len K.cap, .slice V.a V.len V.cap, .slice D.a D.len D.cap] Ty.api_Node
 rd : RdAt w r s m.2
 keys : TxO BK w K m.1.keys
 vals : TxO BV w V m.1.vals
 kids : InO BD w D m.1.kids
 bk : ∀ q, BK q → lo ≤ q ∧ q < w.heap.size ∧ ¬ BV q ∧ ¬ BD q
 bv : ∀ q, BV q → lo ≤ q ∧ q < w.heap.size ∧ ¬ BD q
 bd : ∀ q, BD q → lo ≤ q ∧ q < w.heap.size
 hs : ∀ q, ownB s q → q < lo ∧ q ≠ nb
 rlo : r < lo
 nlo : nb < lo
 dif : r ≠ nb
 rl : m.2.1.length ≤ 100000
def DecW (lo r nb : Nat) (q : Nat) : Prop := q = r ∨ q = nb ∨ lo ≤ q
theorem DecSt.drew {lo : Nat} {w : World} {r nb : Nat} {s : Sl} {m : Nd × Rd} {K V D : Sl} {BK BV BD : Nat → Prop} (h : DecSt lo w r nb s m K V D BK BV BD) : DecSt lo w.drew r nb s m K V D BK BV BD :=
 ⟨h.v.ext (ext_drew w), h.rd.ext (ext_drew w), TxO.ext h.keys (ext_drew w), TxO.ext h.vals (ext_drew w), InO.ext h.kids (ext_drew w), h.bk, h.bv, h.bd, h.hs, h.rlo, h.nlo, h.dif, h.rl⟩
theorem decIter_leaf {leaf : Bool} : ∀ (s : Nd × Rd) (i : Nat), s.1.leaf = leaf → (decIter s i).1.leaf = leaf
 | _, 0, h => h
 | s, i + 1, h => by
   have ih := decIter_leaf s i h
   rw [decIter]
   unfold decStep
   split
   · exact ih
   · exact ih
theorem decIter_few : ∀ (s : Nd × Rd) (i : Nat), (decIter s i).1.keys.length = s.1.keys.length + i ∧ (decIter s i).1.vals.length ≤ s.1.vals.length + i ∧ (decIter s i).1.kids.length ≤ s.1.kids.length + i
 | _, 0 => ⟨rfl, Nat.le_refl _, Nat.le_refl _⟩
 | s, i + 1 => by
   obtain ⟨h1, h2, h3⟩ := decIter_few s i
   rw [decIter]
   unfold decStep
   split <;> simp <;> omega
theorem segK {lo : Nat} {w : World} {r nb : Nat} {s : Sl} {m : Nd × Rd} {K V D : Sl} {BK BV BD : Nat → Prop} (h : DecSt lo w r nb s m K V D BK BV BD) (hlo : lo ≤ w.heap.size) (hn : m.1.keys.length ≤ 100000) {R : World → Prop}
   (hR : ∀ (w' : World) (K' s' : Sl) (BK' : Nat → Prop), DecSt lo w' r nb s' (⟨m.1.leaf, m.1.keys ++ [(rdText m.2).1], m.1.vals, m.1.kids⟩, (rdText m.2).2) K' V D BK' BV BD → Chg (DecW lo r nb) w w' → lo ≤ w'.heap.size → R w') :
   Nx w.drew fun w25 => ∃ W26 : Nat → Prop, ¬ W26 (Addr.add ⟨nb, 0, none⟩ 1).block ∧ ∃ s27 : Sl, w25.cell? (Addr.add ⟨nb, 0, none⟩ 1) = some (.slice s27.a s27.len s27.cap) ∧
     Calls Tryz.prog F.node_reader_text #[.pointer (some ⟨r, 0, none⟩)] w25 fun e29 w28 => ∃ s30 : Sl, e29 = .returned (.slice s30.a s30.len s30.cap) ∧ Chg W26 w25 w28 ∧
     Nx (w28.alloc (.cells #[.slice s30.a s30.len s30.cap] Ty.Sl_uint8)) fun w31 => Chg W26 w28 w31 ∧ ∃ s32 : Sl, ∃ w33 : World, Sem.run Tryz.prog (Builtin.append_ #[Ty.Sl_Sl_uint8, Ty.Sl_Sl_uint8] Ty.Sl_Sl_uint8 #[.slice s27.a s27.len s27.cap, .slice (some ⟨w28.heap.size, 0, none⟩) 1 1]) w31 = .ok (.slice s32.a s32.len s32.cap) w33 ∧
     (∃ u : Value, w33.cell? (Addr.add ⟨nb, 0, none⟩ 1) = some u) ∧ w33.frozen? (Addr.add ⟨nb, 0, none⟩ 1) = false ∧ Nx (w33.setCell (Addr.add ⟨nb, 0, none⟩ 1) (.slice s32.a s32.len s32.cap)) fun w34 => R w34 := by
 have hd := h.drew
 have hr := h.rlo
 have hnb := h.nlo
 obtain ⟨c0, c1, c2, c3⟩ := ndCells hd.v
 refine nx ⟨fun q => q = r, fun e => h.dif (by rw [add_mk] at e; exact e.symm), K, c1, (reader_text hd.rd hd.rl).use ?_⟩
 rintro _ w28 ⟨t, s', rfl, ht, hrd, hc, hs'⟩
 have hz : w.drew.heap.size = w.heap.size := rfl
 have hsz := hc.size
 have nB : ∀ {B : Nat → Prop}, (∀ q, B q → lo ≤ q) → ∀ k, B k → ¬ (k = r) := fun hB k hk e => by have := hB k hk; omega
 have hk2 := TxO.chg hd.keys hc (nB fun q hq => (h.bk q hq).1)
 have hv2 := TxO.chg hd.vals hc (nB fun q hq => (h.bv q hq).1)
 have hd2 := InO.chg hd.kids hc (nB fun q hq => (h.bd q hq).1)
 have hvar2 := hd.v.chg hc (fun e => h.dif e.symm)
 refine ⟨t, rfl, hc, pushSeg (B := Grow BK w.drew w28) hvar2 (o := 1) (by simp) (TxO.weak hk2 fun k _ h => .inl h) ?_ (Tx.weak ht fun k hk h => .inr ⟨h, hk⟩) ?_ hn fun w' K' g1 g2 g3 => ?_⟩
 · rintro (h1 | h1)
   · have := (h.bk nb h1).1; omega
   · omega
 · intro k hk1 hk2'
   obtain ⟨ts, _, _, h3, _⟩ := h.keys
   have := (h3 k hk2').2
   have := (ht.2.2 k hk1).1
   omega
 have hfr : ∀ q, Grow (Grow BK w.drew w28) w28 w' q → BK q ∨ (w.heap.size ≤ q ∧ q < w'.heap.size) := by
   rintro q ((h1 | h1) | h1)
   · exact .inl h1
   · exact .inr ⟨h1.1, Nat.lt_of_lt_of_le h1.2 g3.size⟩
   · exact .inr ⟨Nat.le_trans hsz h1.1, h1.2⟩
 have hg := g3.size
 have hKo : ∀ q, ownB K q → BK q := fun q hq => by
   obtain ⟨ts, _, _, h3, _⟩ := h.keys
   exact (h3 q hq).1
 refine hR w' K' s' (fun q => BK q ∨ (w.heap.size ≤ q ∧ q < w'.heap.size)) ⟨by simpa using g1, hrd.chg g3 ?_ ?_, TxO.weak g2 fun k _ hk => hfr k hk, TxO.chg hv2 g3 ?_, InO.chg hd2 g3 ?_, ?_, fun q hq => ?_, fun q hq => ?_, fun q hq => h.hs q (hs' q hq), h.rlo, h.nlo, h.dif, Nat.le_trans (rdText_len m.2).1 h.rl⟩ ?_ (by omega)
 · rintro (h1 | h1)
   · exact h.dif h1
   · have := (h.bk r (hKo r h1)).1; omega
 · rintro q hq (h1 | h1)
   · exact (h.hs q (hs' q hq)).2 h1
   · have := (h.bk q (hKo q h1)).1
     have := (h.hs q (hs' q hq)).1; omega
 · rintro q hq (h1 | h1)
   · have := (h.bv q hq).1; omega
   · exact (h.bk q (hKo q h1)).2.2.1 hq
 · rintro q hq (h1 | h1)
   · have := (h.bd q hq).1; omega
   · exact (h.bk q (hKo q h1)).2.2.2 hq
 · rintro q (h1 | h1)
   · have := h.bk q h1; exact ⟨this.1, by omega, this.2.2⟩
   · exact ⟨by omega, h1.2, fun h2 => by have := h.bv q h2; omega, fun h2 => by have := h.bd q h2; omega⟩
 · have := h.bv q hq; exact ⟨this.1, by omega, this.2.2⟩
 · have := h.bd q hq; exact ⟨this.1, by omega⟩
 · refine ((Chg.of_ext (ext_drew w)).trans (hc.mono fun k _ hk => .inl hk)).trans (g3.mono fun k _ hk => ?_)
   rcases hk with hk | hk
   · exact .inr (.inl hk)
   · exact .inr (.inr (h.bk k (hKo k hk)).1)
theorem segV {lo : Nat} {w : World} {r nb : Nat} {s : Sl} {m : Nd × Rd} {K V D : Sl} {BK BV BD : Nat → Prop} (h : DecSt lo w r nb s m K V D BK BV BD) (hlo : lo ≤ w.heap.size) (hn : m.1.vals.length ≤ 100000) {R : World → Prop}
   (hR : ∀ (w' : World) (V' s' : Sl) (BV' : Nat → Prop), DecSt lo w' r nb s' (⟨m.1.leaf, m.1.keys, m.1.vals ++ [(rdText m.2).1], m.1.kids⟩, (rdText m.2).2) K V' D BK BV' BD → Chg (DecW lo r nb) w w' → lo ≤ w'.heap.size → R w') :
   Nx w.drew fun w25 => ∃ W26 : Nat → Prop, ¬ W26 (Addr.add ⟨nb, 0, none⟩ 2).block ∧ ∃ s27 : Sl, w25.cell? (Addr.add ⟨nb, 0, none⟩ 2) = some (.slice s27.a s27.len s27.cap) ∧
     Calls Tryz.prog F.node_reader_text #[.pointer (some ⟨r, 0, none⟩)] w25 fun e29 w28 => ∃ s30 : Sl, e29 = .returned (.slice s30.a s30.len s30.cap) ∧ Chg W26 w25 w28 ∧
     Nx (w28.alloc (.cells #[.slice s30.a s30.len s30.cap] Ty.Sl_uint8)) fun w31 => Chg W26 w28 w31 ∧ ∃ s32 : Sl, ∃ w33 : World, Sem.run Tryz.prog (Builtin.append_ #[Ty.Sl_Sl_uint8, Ty.Sl_Sl_uint8] Ty.Sl_Sl_uint8 #[.slice s27.a s27.len s27.cap, .slice (some ⟨w28.heap.size, 0, none⟩) 1 1]) w31 = .ok (.slice s32.a s32.len s32.cap) w33 ∧
     (∃ u : Value, w33.cell? (Addr.add ⟨nb, 0, none⟩ 2) = some u) ∧ w33.frozen? (Addr.add ⟨nb, 0, none⟩ 2) = false ∧ Nx (w33.setCell (Addr.add ⟨nb, 0, none⟩ 2) (.slice s32.a s32.len s32.cap)) fun w34 => R w34 := by
 have hd := h.drew
 have hr := h.rlo
 have hnb := h.nlo
 obtain ⟨c0, c1, c2, c3⟩ := ndCells hd.v
 refine nx ⟨fun q => q = r, fun e => h.dif (by rw [add_mk] at e; exact e.symm), V, c2, (reader_text hd.rd hd.rl).use ?_⟩
 rintro _ w28 ⟨t, s', rfl, ht, hrd, hc, hs'⟩
 have hz : w.drew.heap.size = w.heap.size := rfl
 have hsz := hc.size
 have nB : ∀ {B : Nat → Prop}, (∀ q, B q → lo ≤ q) → ∀ k, B k → ¬ (k = r) := fun hB k hk e => by have := hB k hk; omega
 have hk2 := TxO.chg hd.keys hc (nB fun q hq => (h.bk q hq).1)
 have hv2 := TxO.chg hd.vals hc (nB fun q hq => (h.bv q hq).1)
 have hd2 := InO.chg hd.kids hc (nB fun q hq => (h.bd q hq).1)
 have hvar2 := hd.v.chg hc (fun e => h.dif e.symm)
 refine ⟨t, rfl, hc, pushSeg (B := Grow BV w.drew w28) hvar2 (o := 2) (by simp) (TxO.weak hv2 fun k _ h => .inl h) ?_ (Tx.weak ht fun k hk h => .inr ⟨h, hk⟩) ?_ hn fun w' V' g1 g2 g3 => ?_⟩
 · rintro (h1 | h1)
   · have := (h.bv nb h1).1; omega
   · omega
 · intro k hk1 hk2'
   obtain ⟨ts, _, _, h3, _⟩ := h.vals
   have := (h3 k hk2').2
   have := (ht.2.2 k hk1).1
   omega
 have hfr : ∀ q, Grow (Grow BV w.drew w28) w28 w' q → BV q ∨ (w.heap.size ≤ q ∧ q < w'.heap.size) := by
   rintro q ((h1 | h1) | h1)
   · exact .inl h1
   · exact .inr ⟨h1.1, Nat.lt_of_lt_of_le h1.2 g3.size⟩
   · exact .inr ⟨Nat.le_trans hsz h1.1, h1.2⟩
 have hg := g3.size
 have hKo : ∀ q, ownB V q → BV q := fun q hq => by
   obtain ⟨ts, _, _, h3, _⟩ := h.vals
   exact (h3 q hq).1
 refine hR w' V' s' (fun q => BV q ∨ (w.heap.size ≤ q ∧ q < w'.heap.size)) ⟨by simpa using g1, hrd.chg g3 ?_ ?_, TxO.chg hk2 g3 ?_, TxO.weak g2 fun k _ hk => hfr k hk, InO.chg hd2 g3 ?_, fun q hq => ?_, ?_, fun q hq => ?_, fun q hq => h.hs q (hs' q hq), h.rlo, h.nlo, h.dif, Nat.le_trans (rdText_len m.2).1 h.rl⟩ ?_ (by omega)
 · rintro (h1 | h1)
   · exact h.dif h1
   · have := (h.bv r (hKo r h1)).1; omega
 · rintro q hq (h1 | h1)
   · exact (h.hs q (hs' q hq)).2 h1
   · have := (h.bv q (hKo q h1)).1
     have := (h.hs q (hs' q hq)).1; omega
 · rintro q hq (h1 | h1)
   · have := (h.bk q hq).1; omega
   · exact (h.bk q hq).2.2.1 (hKo q h1)
 · rintro q hq (h1 | h1)
   · have := (h.bd q hq).1; omega
   · exact (h.bv q (hKo q h1)).2.2 hq
 · have := h.bk q hq
   refine ⟨this.1, by omega, ?_, this.2.2.2⟩
   rintro (h1 | h1)
   · exact this.2.2.1 h1
   · omega
 · rintro q (h1 | h1)
   · have := h.bv q h1; exact ⟨this.1, by omega, this.2.2⟩
   · exact ⟨by omega, h1.2, fun h2 => by have := h.bd q h2; omega⟩
 · have := h.bd q hq; exact ⟨this.1, by omega⟩
 · refine ((Chg.of_ext (ext_drew w)).trans (hc.mono fun k _ hk => .inl hk)).trans (g3.mono fun k _ hk => ?_)
   rcases hk with hk | hk
   · exact .inr (.inl hk)
   · exact .inr (.inr (h.bv k (hKo k hk)).1)
theorem segD {lo : Nat} {w : World} {r nb : Nat} {s : Sl} {m : Nd × Rd} {K V D : Sl} {BK BV BD : Nat → Prop} (h : DecSt lo w r nb s m K V D BK BV BD) (hlo : lo ≤ w.heap.size) (hn : m.1.kids.length ≤ 100000) {R : World → Prop}
   (hR : ∀ (w' : World) (D' s' : Sl) (BD' : Nat → Prop), DecSt lo w' r nb s' (⟨m.1.leaf, m.1.keys, m.1.vals, m.1.kids ++ [(rdNum m.2 2).1]⟩, (rdNum m.2 2).2) K V D' BK BV BD' → Chg (DecW lo r nb) w w' → lo ≤ w'.heap.size → R w') :
   Nx w.drew fun w25 => ∃ W26 : Nat → Prop, ¬ W26 (Addr.add ⟨nb, 0, none⟩ 3).block ∧ ∃ s27 : Sl, w25.cell? (Addr.add ⟨nb, 0, none⟩ 3) = some (.slice s27.a s27.len s27.cap) ∧
     Calls Tryz.prog F.node_reader_number #[.pointer (some ⟨r, 0, none⟩), .int .i64 2] w25 fun e29 w28 => ∃ n30 : Int, e29 = .returned (.int .i64 n30) ∧ Chg W26 w25 w28 ∧
     Nx (w28.alloc (.cells #[.int .i64 n30] Ty.int)) fun w31 => Chg W26 w28 w31 ∧ ∃ s32 : Sl, ∃ w33 : World, Sem.run Tryz.prog (Builtin.append_ #[Ty.Sl_int, Ty.Sl_int] Ty.Sl_int #[.slice s27.a s27.len s27.cap, .slice (some ⟨w28.heap.size, 0, none⟩) 1 1]) w31 = .ok (.slice s32.a s32.len s32.cap) w33 ∧
     (∃ u : Value, w33.cell? (Addr.add ⟨nb, 0, none⟩ 3) = some u) ∧ w33.frozen? (Addr.add ⟨nb, 0, none⟩ 3) = false ∧ Nx (w33.setCell (Addr.add ⟨nb, 0, none⟩ 3) (.slice s32.a s32.len s32.cap)) fun w34 => R w34 := by
 have hd := h.drew
 have hr := h.rlo
 have hnb := h.nlo
 obtain ⟨c0, c1, c2, c3⟩ := ndCells hd.v
 refine nx ⟨fun q => q = r, fun e => h.dif (by rw [add_mk] at e; exact e.symm), D, c3, (reader_number hd.rd 2 (by decide) hd.rl).use ?_⟩
 rintro _ w28 ⟨s', rfl, hrd, hc, hs'⟩
 have hz : w.drew.heap.size = w.heap.size := rfl
 have hsz := hc.size
 have nB : ∀ {B : Nat → Prop}, (∀ q, B q → lo ≤ q) → ∀ k, B k → ¬ (k = r) := fun hB k hk e => by have := hB k hk; omega
 have hk2 := TxO.chg hd.keys hc (nB fun q hq => (h.bk q hq).1)
 have hv2 := TxO.chg hd.vals hc (nB fun q hq => (h.bv q hq).1)
 have hd2 := InO.chg hd.kids hc (nB fun q hq => (h.bd q hq).1)
 have hvar2 := hd.v.chg hc (fun e => h.dif e.symm)
 refine ⟨_, rfl, hc, pushSegI (rdNum m.2 2).1 (B := BD) hvar2 (o := 3) (by simp) hd2 (fun h1 => by have := (h.bd nb h1).1; omega) hn fun w' D' g1 g2 g3 => ?_⟩
 have hfr : ∀ q, Grow BD w28 w' q → BD q ∨ (w.heap.size ≤ q ∧ q < w'.heap.size) := by
   rintro q (h1 | h1)
   · exact .inl h1
   · exact .inr ⟨Nat.le_trans hsz h1.1, h1.2⟩
 have hg := g3.size
 have hKo : ∀ q, ownB D q → BD q := fun q hq => (h.kids.2 q hq).1
 refine hR w' D' s' (fun q => BD q ∨ (w.heap.size ≤ q ∧ q < w'.heap.size)) ⟨by simpa using g1, hrd.chg g3 ?_ ?_, TxO.chg hk2 g3 ?_, TxO.chg hv2 g3 ?_, InO.weak g2 fun k _ hk => hfr k hk, fun q hq => ?_, fun q hq => ?_, ?_, fun q hq => h.hs q (hs' q hq), h.rlo, h.nlo, h.dif, Nat.le_trans (rdNum_len m.2 2) h.rl⟩ ?_ (by omega)
 · rintro (h1 | h1)
   · exact h.dif h1
   · have := (h.bd r (hKo r h1)).1; omega
 · rintro q hq (h1 | h1)
   · exact (h.hs q (hs' q hq)).2 h1
   · have := (h.bd q (hKo q h1)).1
     have := (h.hs q (hs' q hq)).1; omega
 · rintro q hq (h1 | h1)
   · have := (h.bk q hq).1; omega
   · exact (h.bk q hq).2.2.2 (hKo q h1)
 · rintro q hq (h1 | h1)
   · have := (h.bv q hq).1; omega
   · exact (h.bv q hq).2.2 (hKo q h1)
 · have := h.bk q hq
   refine ⟨this.1, by omega, this.2.2.1, ?_⟩
   rintro (h1 | h1)
   · exact this.2.2.2 h1
   · omega
 · have := h.bv q hq
   refine ⟨this.1, by omega, ?_⟩
   rintro (h1 | h1)
   · exact this.2.2 h1
   · omega
 · rintro q (h1 | h1)
   · have := h.bd q h1; exact ⟨this.1, by omega⟩
   · exact ⟨by omega, h1.2⟩
 · refine ((Chg.of_ext (ext_drew w)).trans (hc.mono fun k _ hk => .inl hk)).trans (g3.mono fun k _ hk => ?_)
   rcases hk with hk | hk
   · exact .inr (.inl hk)
   · exact .inr (.inr (h.bd k (hKo k hk)).1)
end Go.Proofs.YtplieiecebljmaaGreat
