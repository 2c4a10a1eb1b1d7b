/- Rules as arguments; the law of hits. -/
import Derived.Test.YtcjpgabpihkcjaaGreatDoorAclC
namespace Go.Proofs.YtcjpgabpihkcjaaGreatDoor
open Go Gx

/-! ### Arguments -/
def lfP : List Lf := (.bool :: bytesL 16) ++ [.int .i64]
def lfA : List Lf := .bool :: bytesL 16
def lfR : List Lf := lfP ++ (lfP ++ [.int .u8, .int .u16, .int .u16, .bool])
def lfF : List Lf := lfA ++ (lfA ++ [.int .u16, .int .u16, .int .u8])
theorem u16_range {n : Int} (h0 : IntKind.u16.min ≤ n) (h1 : n ≤ IntKind.u16.max) : 0 ≤ n ∧ n ≤ 65535 := ⟨h0, h1⟩
theorem u8_range {n : Int} (h0 : IntKind.u8.min ≤ n) (h1 : n ≤ IntKind.u8.max) : 0 ≤ n ∧ n ≤ 255 := ⟨h0, h1⟩
theorem Ru.of_okRs {cs : List Value} (h : okRs lfR cs) : ∃ r : Ru, cs = r.c ∧ r.ok := by
  obtain ⟨u1, t1, rfl, h1, h2⟩ := okRs_app h
  obtain ⟨u2, t2, rfl, h3, h4⟩ := okRs_app h2
  obtain ⟨p, rfl, _⟩ := Pf.of_okRs h1
  obtain ⟨q, rfl, _⟩ := Pf.of_okRs h3
  obtain ⟨_, _, rfl, ⟨a, rfl, a1, a2⟩, ⟨_, _, rfl, ⟨b, rfl, b1, b2⟩, ⟨_, _, rfl, ⟨c, rfl, c1, c2⟩, ⟨_, _, rfl, ⟨d, rfl⟩, rfl⟩⟩⟩⟩ := h4
  exact ⟨⟨p, q, a, b, c, d⟩, rfl, ⟨u8_range a1 a2, u16_range b1 b2, u16_range c1 c2⟩⟩
theorem Fl.of_okRs {cs : List Value} (h : okRs lfF cs) : ∃ f : Fl, cs = f.c := by
  obtain ⟨u1, t1, rfl, h1, h2⟩ := okRs_app h
  obtain ⟨u2, t2, rfl, h3, h4⟩ := okRs_app h2
  obtain ⟨p, rfl⟩ := Ad.of_okRs h1
  obtain ⟨q, rfl⟩ := Ad.of_okRs h3
  obtain ⟨_, _, rfl, ⟨a, rfl, a1, a2⟩, ⟨_, _, rfl, ⟨b, rfl, b1, b2⟩, ⟨_, _, rfl, ⟨c, rfl, c1, c2⟩, rfl⟩⟩⟩ := h4
  exact ⟨⟨p, q, a, b, c⟩, rfl⟩
set_option maxRecDepth 100000 in
theorem Ru.of {w : World} {v : Value} (h : OkV Tryz.prog w Ty.api_Rule v) : ∃ r : Ru, v = .agg r.c.toArray ∧ r.ok := by
  obtain ⟨cs, rfl, h2⟩ := okV_flat h (d := (Tryz.prog.underlying Ty.api_Rule).get (by kernel_rfl)) (ls := lfR) (Option.some_get _).symm (by kernel_rfl) (by kernel_rfl) (by kernel_rfl)
  obtain ⟨r, rfl, h3⟩ := Ru.of_okRs h2
  exact ⟨r, rfl, h3⟩
set_option maxRecDepth 100000 in
theorem Fl.of {w : World} {v : Value} (h : OkV Tryz.prog w Ty.api_Flow v) : ∃ f : Fl, v = .agg f.c.toArray := by
  obtain ⟨cs, rfl, h2⟩ := okV_flat h (d := (Tryz.prog.underlying Ty.api_Flow).get (by kernel_rfl)) (ls := lfF) (Option.some_get _).symm (by kernel_rfl) (by kernel_rfl) (by kernel_rfl)
  obtain ⟨r, rfl⟩ := Fl.of_okRs h2
  exact ⟨r, rfl⟩
theorem Ru.c_inj {a b : Ru} (h : a.c = b.c) : a = b := by
  simp only [Ru.c] at h
  obtain ⟨h1, h2⟩ := List.append_inj h (by simp [Pf.c_length])
  obtain ⟨h3, h4⟩ := List.append_inj h2 (by simp [Pf.c_length])
  have e1 := Pf.c_inj h1
  have e2 := Pf.c_inj h3
  cases a; cases b
  simp only [List.cons.injEq, Value.int.injEq, Value.bool.injEq] at h4
  simp_all
theorem Ru.okCs (r : Ru) : Gx.okCs lfR r.c := okCs_mk r.src.okCs (okCs_mk r.dst.okCs ⟨_, _, rfl, ⟨_, rfl⟩, ⟨_, _, rfl, ⟨_, rfl⟩, ⟨_, _, rfl, ⟨_, rfl⟩, ⟨_, _, rfl, ⟨_, rfl⟩, rfl⟩⟩⟩⟩)
theorem eqRu (a b : Ru) : AggEq Tryz.prog Ty.api_Rule a.c.toArray b.c.toArray (decide (a = b)) := by
  have h := AggEq.flat (P := Tryz.prog) (T := Ty.api_Rule) (d := (Tryz.prog.underlying Ty.api_Rule).get (by kernel_rfl)) (ls := lfR) (Option.some_get _).symm (by kernel_rfl) (by kernel_rfl) (by kernel_rfl) a.okCs b.okCs
  have e : eqVs a.c b.c = decide (a = b) := by
    rw [Bool.eq_iff_iff, eqVs_iff a.okCs b.okCs, decide_eq_true_eq]
    exact ⟨Ru.c_inj, fun h => by rw [h]⟩
  rwa [e] at h

theorem rd_cat {w : World} {A : Addr} {n m i : Nat} {xs ys : List Value} (h1 : rdCells w A i n = some xs) (h2 : rdCells w (A.add (i + n)) 0 m = some ys) : rdCells w A i (n + m) = some (xs ++ ys) := by
  have l1 := rdCells_length h1
  have l2 := rdCells_length h2
  refine rd_of (n + m) i _ (by rw [List.length_append, l1, l2]) fun j v hv => ?_
  rw [List.getElem?_append] at hv
  split at hv
  · exact rdCells_get h1 hv
  · rename_i hj
    have := rdCells_get h2 hv
    rw [add_add] at this
    rwa [show i + n + (0 + (j - xs.length)) = i + j by omega] at this
set_option maxRecDepth 100000 in
theorem rules_of {w : World} {v : Value} (h : OkV Tryz.prog w Ty.Sl_api_Rule v) : ∃ (s : Sl) (rs : List Ru), v = .slice s.a s.len s.cap ∧ s.len ≤ s.cap ∧ s.cap ≤ maxLen ∧ Src 40 w s (rsc rs) ∧ ∀ r ∈ rs, r.ok := by
  obtain ⟨s, rfl, hs⟩ := SliceAt.of h (e := Ty.api_Rule) (by kernel_rfl)
  have hc : Tryz.prog.cellsOf Ty.api_Rule = 40 := by kernel_rfl
  have hcell := hs.cell
  rw [hc] at hcell
  have key : ∀ a, s.a = some a → ∀ n, n ≤ s.len → ∃ rs : List Ru, rdCells w a 0 (n * 40) = some (rsc rs) ∧ ∀ r ∈ rs, r.ok := by
    intro a ha n
    induction n with
    | zero => intro _; exact ⟨[], by simp [rdCells, rsc], fun r hr => by cases hr⟩
    | succ n ih =>
      intro hn
      obtain ⟨rs, h1, h2⟩ := ih (by omega)
      obtain ⟨vs, h3, fuel, h4⟩ := hcell a ha n (by have := hs.le; omega)
      obtain ⟨r, rfl, h5⟩ := Ru.of_okRs (okT_flat 8 (ls := lfR) (by kernel_rfl) (by kernel_rfl) h4)
      refine ⟨rs ++ [r], ?_, fun x hx => ?_⟩
      · rw [Nat.succ_mul]
        have := rd_cat h1 (by rw [Nat.zero_add]; exact h3)
        rw [this, rsc_app]
        congr 2
        show r.c = r.c ++ []
        simp
      · rcases List.mem_append.1 hx with hx | hx
        · exact h2 x hx
        · rw [List.mem_singleton.1 hx]; exact h5
  cases hsa : s.a with
  | none =>
    have h0 : s.len = 0 := by have := hs.nil hsa; have := hs.le; omega
    refine ⟨s, [], by rw [← hsa], hs.le, hs.cap, ⟨by simp [rsc, h0], fun _ => rfl, fun a ha => (by rw [hsa] at ha; cases ha)⟩, fun r hr => by cases hr⟩
  | some a =>
    obtain ⟨rs, h1, h2⟩ := key a hsa s.len (Nat.le_refl _)
    refine ⟨s, rs, by rw [← hsa], hs.le, hs.cap, ⟨rdCells_length h1, fun e => (by rw [hsa] at e; cases e), fun a' ha' => ?_⟩, h2⟩
    rw [hsa] at ha'; cases ha'; exact h1

/-! ### Few -/
theorem buildNone (w : World) : Sem.run Tryz.prog (Instr.buildSlice Ty.Sl_api_Rule 0 #[]) w = .ok (.slice (some ⟨w.heap.size, 0, none⟩) 0 0) (w.alloc (.cells #[] Ty.api_Rule)) := by kernel_rfl
theorem appRule : AppT Tryz.prog Ty.Sl_api_Rule Ty.api_Rule 40 72 := ⟨by kernel_rfl⟩
theorem tab2H_of {w : World} {l : List (String × DataW Unit)} (h : laidMetH Tryz.prog l w) (hp : (l.all fun x => x.2.handleName?.isNone) = true) (h1 : l[1]? = some ("math/bits.deBruijn64tab", Rows.laid_math_bits_deBruijn64tab)) (h2 : l[2]? = some ("internal/strconv.uint64pow10", Rows.laid_internal_strconv_uint64pow10)) : Tab2 w := by
  rw [MakeChecks.laidMetH_plain _ _ _ hp] at h
  exact tab2_of h h1 h2

end Go.Proofs.YtcjpgabpihkcjaaGreatDoor
