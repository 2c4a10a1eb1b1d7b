/- Layer 6: what each function of the document's space answers. -/
import Derived.Test.YtejnlmabomampaaSpaceD
namespace Go.Proofs.Ytejnlmabomampaa
open Go Gx

theorem appBool : AppT Try.prog Ty.Sl_bool Ty.bool 1 1 := ⟨by kernel_rfl⟩
theorem boolsV_plain (f : Nat → Bool) (m : Nat) : ∀ v ∈ boolsV f m, Plain v := by
  intro v hv
  obtain ⟨i, _, rfl⟩ := List.mem_map.1 hv
  trivial
theorem boolsV_succ (f : Nat → Bool) (m : Nat) : boolsV f (m + 1) = boolsV f m ++ [.bool (f m)] := by simp [boolsV, List.range_succ]

structure RefAt (w : World) (b n : Nat) (f g : Nat → Bool) (s1 s2 : Sl) : Prop where
  blk : Blk w b #[.slice s1.a s1.len s1.cap, .slice s2.a s2.len s2.cap] Ty.ref06_Space
  now : OwnS 1 Ty.bool w s1 (boolsV f n)
  sure : OwnS 1 Ty.bool w s2 (boolsV g n)
  d1 : ∀ k, ownB s1 k → k ≠ b ∧ ¬ ownB s2 k
  d2 : ∀ k, ownB s2 k → k ≠ b

section
variable {w w' : World} {b n : Nat} {f g : Nat → Bool} {s1 s2 : Sl}

theorem RefAt.chg {W : Nat → Prop} (h : RefAt w b n f g s1 s2) (hc : Chg W w w') (hn : ∀ k, fpS b s1 s2 k → ¬ W k) : RefAt w' b n f g s1 s2 :=
  ⟨h.blk.chg hc (hn b (.inl rfl)), h.now.chg hc fun k hk => hn k (.inr (.inl hk)), h.sure.chg hc fun k hk => hn k (.inr (.inr hk)), h.d1, h.d2⟩
theorem RefAt.ext (h : RefAt w b n f g s1 s2) (hc : Ext w w') : RefAt w' b n f g s1 s2 := h.chg hc fun _ _ h => h
theorem RefAt.lt (h : RefAt w b n f g s1 s2) : ∀ k, fpS b s1 s2 k → k < w.heap.size := by
  rintro k (rfl | hk | hk)
  · exact h.blk.lt
  · exact h.now.lt k hk
  · exact h.sure.lt k hk
theorem RefAt.c0 (h : RefAt w b n f g s1 s2) : w.cell? ⟨b, 0, none⟩ = some (.slice s1.a s1.len s1.cap) := by rw [h.blk.cell]; rfl
theorem RefAt.c1 (h : RefAt w b n f g s1 s2) : w.cell? ((Addr.mk b 0 none).add 1) = some (.slice s2.a s2.len s2.cap) := by rw [add_mk, h.blk.cell]; rfl
theorem RefAt.len1 (h : RefAt w b n f g s1 s2) : s1.len = n := by have := h.now.1; rw [boolsV_length] at this; omega
theorem RefAt.len2 (h : RefAt w b n f g s1 s2) : s2.len = n := by have := h.sure.1; rw [boolsV_length] at this; omega

theorem push_bool {s x : Sl} {vs : List Value} {c : Bool} (hown : OwnS 1 Ty.bool w s vs) (hsrc : Src 1 w x [.bool c]) (hs : s.len ≤ 1000000) :
    ∃ (s' : Sl) (w' : World), Sem.run Try.prog (Builtin.append_ #[Ty.Sl_bool, Ty.Sl_bool] Ty.Sl_bool #[.slice s.a s.len s.cap, .slice x.a x.len x.cap]) w = .ok (.slice s'.a s'.len s'.cap) w' ∧
      OwnS 1 Ty.bool w' s' (vs ++ [.bool c]) ∧ Chg (ownB s) w w' ∧ (∀ k, ownB s' k → ownB s k ∨ w.heap.size ≤ k) := by
  have hx := hsrc.len
  simp at hx
  obtain ⟨s', w', h1, h2, _, h3, h4⟩ := appBool.append (oT := Ty.Sl_bool) hsrc hown (by simp [Plain]) (by omega)
  exact ⟨s', w', h1, h2, h3, h4⟩

def fp2 (s1 s2 : Sl) (k : Nat) : Prop := ownB s1 k ∨ ownB s2 k

/-- What is there when both rows have grown by one. -/
def Grown (w w' : World) (b n : Nat) (f g : Nat → Bool) (s1 s2 t1 t2 : Sl) : Prop :=
  Blk w' b #[.slice s1.a s1.len s1.cap, .slice s2.a s2.len s2.cap] Ty.ref06_Space ∧ OwnS 1 Ty.bool w' t1 (boolsV f (n + 1)) ∧ OwnS 1 Ty.bool w' t2 (boolsV g (n + 1)) ∧ Chg (fp2 s1 s2) w w' ∧
  (∀ k, ownB t1 k → k ≠ b ∧ ¬ ownB t2 k) ∧ (∀ k, ownB t2 k → k ≠ b) ∧ (∀ k, fp2 t1 t2 k → fp2 s1 s2 k ∨ w.heap.size ≤ k)

theorem grow (h : RefAt w b n f g s1 s2) (hn : n ≤ 100000) {wA : World} (hA : Ext w wA) {x1 : Sl} (hx1 : Src 1 wA x1 [.bool (f n)]) :
    ∃ (t1 : Sl) (w1 : World), Sem.run Try.prog (Builtin.append_ #[Ty.Sl_bool, Ty.Sl_bool] Ty.Sl_bool #[.slice s1.a s1.len s1.cap, .slice x1.a x1.len x1.cap]) wA = .ok (.slice t1.a t1.len t1.cap) w1 ∧
      Chg (fp2 s1 s2) wA w1 ∧ ∀ {wB : World}, Ext w1 wB → ∀ {x2 : Sl}, Src 1 wB x2 [.bool (g n)] →
      ∃ (t2 : Sl) (w2 : World), Sem.run Try.prog (Builtin.append_ #[Ty.Sl_bool, Ty.Sl_bool] Ty.Sl_bool #[.slice s2.a s2.len s2.cap, .slice x2.a x2.len x2.cap]) wB = .ok (.slice t2.a t2.len t2.cap) w2 ∧
        Chg (fp2 s1 s2) wB w2 ∧ Grown w w2 b n f g s1 s2 t1 t2 := by
  have hA' := h.ext hA
  obtain ⟨t1, w1, r1, o1, c1, f1⟩ := push_bool hA'.now hx1 (by rw [h.len1]; omega)
  refine ⟨t1, w1, r1, c1.mono fun k _ hk => .inl hk, ?_⟩
  intro wB hB x2 hx2
  have hsz := hA.size
  have hszB := hB.size
  have hsz1 := c1.size
  have hs2 : OwnS 1 Ty.bool wB s2 (boolsV g n) := (hA'.sure.chg c1 fun k hk h1 => (h.d1 k h1).2 hk).ext hB
  obtain ⟨t2, w2, r2, o2, c2, f2⟩ := push_bool hs2 hx2 (by rw [h.len2]; omega)
  have hd12 : ∀ k, ownB t1 k → ¬ ownB s2 k := fun k hk h2 => by
    rcases f1 k hk with h1 | h1
    · exact (h.d1 k h1).2 h2
    · have := h.sure.lt k h2; omega
  have hlt1 : ∀ k, ownB t1 k → k < w1.heap.size := fun k hk => o1.lt k hk
  refine ⟨t2, w2, r2, c2.mono fun k _ hk => .inr hk, ?_, ?_, ?_, ?_, ?_, ?_, ?_⟩
  · exact ((hA'.blk.chg c1 fun hk => (h.d1 b hk).1 rfl).ext hB).chg c2 fun hk => h.d2 b hk rfl
  · rw [boolsV_succ]
    exact (o1.ext hB).chg c2 hd12
  · rw [boolsV_succ]; exact o2
  · refine (Chg.of_ext hA).trans ((c1.mono fun k _ hk => .inl hk).trans ((Chg.of_ext hB).trans (c2.mono fun k _ hk => .inr hk)))
  · intro k hk
    refine ⟨fun e => ?_, fun h2 => ?_⟩
    · rcases f1 k hk with h1 | h1
      · exact (h.d1 k h1).1 e
      · have := h.blk.lt; omega
    · rcases f2 k h2 with h3 | h3
      · exact hd12 k hk h3
      · have := hlt1 k hk; omega
  · intro k hk e
    rcases f2 k hk with h1 | h1
    · exact h.d2 k h1 e
    · have := h.blk.lt; omega
  · rintro k (hk | hk)
    · rcases f1 k hk with h1 | h1
      · exact .inl (.inl h1)
      · exact .inr (by omega)
    · rcases f2 k hk with h1 | h1
      · exact .inl (.inr h1)
      · exact .inr (by omega)

theorem Grown.c0 {t1 t2 : Sl} (h : Grown w w' b n f g s1 s2 t1 t2) : (∃ u, w'.cell? ⟨b, 0, none⟩ = some u) ∧ w'.frozen? ⟨b, 0, none⟩ = false := ⟨⟨_, by rw [h.1.cell]; rfl⟩, h.1.frozen _ rfl⟩
theorem Grown.c1 {t1 t2 : Sl} (h : Grown w w' b n f g s1 s2 t1 t2) (v : Value) : (∃ u, (w'.setCell ⟨b, 0, none⟩ v).cell? ((Addr.mk b 0 none).add 1) = some u) ∧ (w'.setCell ⟨b, 0, none⟩ v).frozen? ((Addr.mk b 0 none).add 1) = false := by
  rw [add_mk]
  exact ⟨⟨_, by rw [(h.1.set 0 v).cell]; rfl⟩, (h.1.set 0 v).frozen _ rfl⟩
theorem Grown.fin {t1 t2 : Sl} (h : Grown w w' b n f g s1 s2 t1 t2) :
    RefAt ((w'.setCell ⟨b, 0, none⟩ (.slice t1.a t1.len t1.cap)).setCell ((Addr.mk b 0 none).add 1) (.slice t2.a t2.len t2.cap)) b (n + 1) f g t1 t2 ∧
    Chg (fpS b s1 s2) w ((w'.setCell ⟨b, 0, none⟩ (.slice t1.a t1.len t1.cap)).setCell ((Addr.mk b 0 none).add 1) (.slice t2.a t2.len t2.cap)) ∧
    ∀ k, fpS b t1 t2 k → fpS b s1 s2 k ∨ w.heap.size ≤ k := by
  obtain ⟨h1, h2, h3, h4, h5, h6, h7⟩ := h
  rw [add_mk]
  have hc : Chg (fun k => k = b) w' ((w'.setCell ⟨b, 0, none⟩ (.slice t1.a t1.len t1.cap)).setCell ⟨b, 0 + 1, none⟩ (.slice t2.a t2.len t2.cap)) :=
    Chg.set (W := fun k => k = b) (Chg.set (W := fun k => k = b) (.refl _ _) (fun _ => rfl) _) (fun _ => rfl) _
  refine ⟨⟨(h1.set 0 _).set 1 _, h2.chg hc fun k hk => (h5 k hk).1, h3.chg hc h6, h5, h6⟩, ?_, ?_⟩
  · exact (h4.mono fun k _ hk => .inr hk).trans (hc.mono fun k _ hk => .inl hk)
  · rintro k (rfl | hk)
    · exact .inl (.inl rfl)
    · rcases h7 k hk with h | h
      · exact .inl (.inr h)
      · exact .inr h

theorem ref_New (w : World) (n first : Int) (hn : n ≤ 100000) :
    Ret Try.prog F.ref06_New #[.int .i64 n, .int .i64 first] w (fun v w' => ∃ b s1 s2, v = .pointer (some ⟨b, 0, none⟩) ∧ RefAt w' b n.toNat (fun i => decide ((i : Int) < first)) (fun i => decide ((i : Int) < first)) s1 s2 ∧ Ext w w' ∧ ∀ k, fpS b s1 s2 k → w.heap.size ≤ k) := by
  refine W.ref06_New_ok n first w _ ?_
  unfold W.ref06_New Nx
  refine ⟨fun i w' => ∃ j : Nat, i = j ∧ j ≤ n.toNat ∧ Ext w w' ∧ ∃ s1 s2, RefAt w' w.heap.size j (fun i => decide ((i : Int) < first)) (fun i => decide ((i : Int) < first)) s1 s2 ∧ ∀ k, fpS w.heap.size s1 s2 k → w.heap.size ≤ k,
    fun i _ => (n - i).toNat, ⟨0, rfl, by omega, Chg.alloc (.refl _ _) _, ⟨none, 0, 0⟩, ⟨none, 0, 0⟩, ⟨Blk.new w _ _, OwnS.none _ _ _, OwnS.none _ _ _, fun k hk => (ownB_none k hk).elim, fun k hk => (ownB_none k hk).elim⟩, ?_⟩, ?_⟩
  · rintro k (rfl | hk | hk)
    · exact Nat.le_refl _
    · exact (ownB_none k hk).elim
    · exact (ownB_none k hk).elim
  rintro _ w1 ⟨j, rfl, hj, hx, s1, s2, h, hfr⟩
  refine ⟨fun hlt => ?_, fun hge => ?_⟩
  · have hjn : (j : Int) < n := by simpa using hlt
    have hd := h.ext (Chg.drew (.refl _ w1))
    have hnb : ¬ fp2 s1 s2 w.heap.size := by
      rintro (hk | hk)
      · exact (h.d1 _ hk).1 rfl
      · exact h.d2 _ hk rfl
    have hkey : ∀ {w' : World} {t1 t2 : Sl}, Grown w1.drew w' w.heap.size j (fun i => decide ((i : Int) < first)) (fun i => decide ((i : Int) < first)) s1 s2 t1 t2 →
        (∃ j' : Nat, IntKind.wrap .i64 ((j : Int) + 1) = j' ∧ j' ≤ n.toNat ∧ Ext w ((w'.setCell ⟨w.heap.size, 0, none⟩ (.slice t1.a t1.len t1.cap)).setCell ((Addr.mk w.heap.size 0 none).add 1) (.slice t2.a t2.len t2.cap)) ∧
          ∃ s1 s2, RefAt ((w'.setCell ⟨w.heap.size, 0, none⟩ (.slice t1.a t1.len t1.cap)).setCell ((Addr.mk w.heap.size 0 none).add 1) (.slice t2.a t2.len t2.cap)) w.heap.size j' (fun i => decide ((i : Int) < first)) (fun i => decide ((i : Int) < first)) s1 s2 ∧ ∀ k, fpS w.heap.size s1 s2 k → w.heap.size ≤ k) ∧
          (n - IntKind.wrap .i64 ((j : Int) + 1)).toNat < (n - (j : Int)).toNat := by
      intro w' t1 t2 hg
      obtain ⟨g1, g2, g3⟩ := hg.fin
      rw [wrapi (by omega) (by omega)]
      refine ⟨⟨j + 1, by omega, by omega, ?_, t1, t2, g1, ?_⟩, by omega⟩
      · exact ((Chg.of_ext hx.drew).trans g2).mono fun k hk ho => by have := hfr k ho; omega
      · intro k hk
        rcases g3 k hk with h1 | h1
        · exact hfr k h1
        · have := hx.size
          simp only [drew_heap] at h1
          omega
    have hbox : ∀ w2 : World, Src 1 (w2.alloc (.cells #[.bool (decide ((j : Int) < first))] Ty.bool)) ⟨some ⟨w2.heap.size, 0, none⟩, 1, 1⟩ [.bool (decide ((j : Int) < first))] := fun w2 => Src.new (T := Ty.bool) w2 [.bool (decide ((j : Int) < first))] 1 rfl
    have hjl : j ≤ 100000 := by omega
    refine ⟨fp2 s1 s2, _, rfl, hnb, s1, hd.c0, _, rfl, hnb, s2, hd.c1, ⟨Chg.alloc (.refl _ _) _, ?_, ?_⟩, Chg.alloc (.refl _ _) _, Chg.alloc (.refl _ _) _, ?_⟩
    · obtain ⟨t1, w2, r1, c1, k2⟩ := grow hd hjl (Chg.alloc (.refl _ _) _) (hbox _)
      obtain ⟨t2, w3, r2, c2, hg⟩ := k2 (Chg.alloc (.refl _ w2) _) (hbox _)
      exact ⟨t1, w2, r1, c1, Chg.alloc (.refl _ _) _, t2, w3, r2, c2, _, rfl, hg.c0.1, hg.c0.2, _, rfl, (hg.c1 _).1, (hg.c1 _).2, hkey hg⟩
    · have hA : Ext w1.drew ((w1.drew.alloc (.cells #[.bool (decide ((j : Int) < first))] Ty.bool)).alloc (.cells #[.bool (decide ((j : Int) < first))] Ty.bool)) := Chg.alloc (Chg.alloc (.refl _ _) _) _
      obtain ⟨t1, w2, r1, c1, k2⟩ := grow hd hjl hA ((hbox w1.drew).alloc _)
      have hx2 := (hbox (w1.drew.alloc (.cells #[.bool (decide ((j : Int) < first))] Ty.bool))).chg c1 (fun k hk h2 => by
        rw [ownB_some] at hk
        have := hd.lt k (.inr h2)
        simp at hk this
        omega)
      obtain ⟨t2, w3, r2, c2, hg⟩ := k2 (.refl _ w2) hx2
      exact ⟨Chg.alloc (.refl _ _) _, t1, w2, r1, c1, t2, w3, r2, c2, _, rfl, hg.c0.1, hg.c0.2, _, rfl, (hg.c1 _).1, (hg.c1 _).2, hkey hg⟩
    · have hA : Ext w1.drew ((w1.drew.alloc (.cells #[.bool (decide ((j : Int) < first))] Ty.bool)).alloc (.cells #[.bool (decide ((j : Int) < first))] Ty.bool)) := Chg.alloc (Chg.alloc (.refl _ _) _) _
      obtain ⟨t1, w2, r1, c1, k2⟩ := grow hd hjl hA (hbox (w1.drew.alloc (.cells #[.bool (decide ((j : Int) < first))] Ty.bool)))
      have hx2 := ((hbox w1.drew).alloc (.cells #[.bool (decide ((j : Int) < first))] Ty.bool)).chg c1 (fun k hk h2 => by
        rw [ownB_some] at hk
        have := hd.lt k (.inr h2)
        simp at hk this
        omega)
      obtain ⟨t2, w3, r2, c2, hg⟩ := k2 (.refl _ w2) hx2
      exact ⟨t1, w2, r1, c1, t2, w3, r2, c2, _, rfl, hg.c0.1, hg.c0.2, _, rfl, (hg.c1 _).1, (hg.c1 _).2, hkey hg⟩
  · have hjn : (j : Int) = n.toNat := by
      have : ¬ (j : Int) < n := by simpa using hge
      omega
    have : j = n.toNat := by omega
    subst this
    exact ⟨_, s1, s2, rfl, h, hx, hfr⟩

end
end Go.Proofs.Ytejnlmabomampaa
