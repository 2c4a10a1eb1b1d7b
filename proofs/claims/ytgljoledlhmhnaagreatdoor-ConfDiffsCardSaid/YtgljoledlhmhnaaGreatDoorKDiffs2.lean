/- What a Go program of the model must show, as text that can be read; sound against the kit. -/
import Derived.Carry
import Derived.ChangeArms
import Derived.ChangeVars
import Derived.LaidLaws
import Derived.Laws.StructEq
import Derived.Lib.Overlaps
import Derived.MakeChecks
import Derived.WideKeyRuns
import Derived.Test.YtgljoledlhmhnaaGreatDoorKDiffs1
namespace Gx
open Go Go.RowKit
def flatF (flatT : TypeId → Option (List Lf)) (P : Program) : List Field → Nat → Option (List Lf)
 | [], _ => some []
 | f :: fs, o => if f.name = "_" ∨ f.offset ≠ o then none else
     match flatT f.type with
     | some ls => if P.cellsOf f.type = ls.length then (flatF flatT P fs (o + ls.length)).map (ls ++ ·) else none
     | none => none
def reps (ls : List Lf) : Nat → List Lf
 | 0 => []
 | n + 1 => ls ++ reps ls n
def flatT (P : Program) : Nat → TypeId → Option (List Lf)
 | 0, _ => none
 | d + 1, T => match P.underlying T with
   | some (.int k) => some [.int k]
   | some .bool => some [.bool]
   | some .string => some [.str]
   | some (.struct fs) => if P.stoodInHeld T then none else flatF (flatT P d) P fs.toList 0
   | some (.array n e) => match flatT P d e with
     | some ls => if P.cellsOf e = ls.length then some (reps ls n) else none
     | none => none
   | _ => none
def okC : Lf → Value → Prop
 | .int k, v => ∃ n : Int, v = .int k n
 | .bool, v => ∃ b : Bool, v = .bool b
 | .str, v => ∃ s : ByteArray, v = .string s
 | _, _ => False
def okCs : List Lf → List Value → Prop
 | [], vs => vs = []
 | l :: ls, vs => ∃ v us, vs = v :: us ∧ okC l v ∧ okCs ls us
theorem okCs_length : ∀ {ls : List Lf} {vs : List Value}, okCs ls vs → vs.length = ls.length
 | [], _, h => by cases h; rfl
 | _ :: _, _, h => by
   obtain ⟨v, us, rfl, _, h⟩ := h
   simp [okCs_length h]
theorem okCs_append : ∀ {ls ms : List Lf} {vs : List Value}, okCs (ls ++ ms) vs → okCs ls (vs.take ls.length) ∧ okCs ms (vs.drop ls.length)
 | [], _, _, h => ⟨rfl, h⟩
 | l :: ls, ms, vs, h => by
   obtain ⟨v, us, rfl, h1, h2⟩ := h
   obtain ⟨h3, h4⟩ := okCs_append h2
   exact ⟨⟨v, _, rfl, h1, h3⟩, h4⟩
theorem okCs_mk : ∀ {ls ms : List Lf} {vs us : List Value}, okCs ls vs → okCs ms us → okCs (ls ++ ms) (vs ++ us)
 | [], _, _, _, h, h2 => by cases h; exact h2
 | l :: ls, ms, vs, us, h, h2 => by
   obtain ⟨v, vs, rfl, h1, h⟩ := h
   exact ⟨v, _, rfl, h1, okCs_mk h h2⟩
def eqV : Value → Value → Bool
 | .int _ a, .int _ b => a == b
 | .bool a, .bool b => a == b
 | .string a, .string b => a.toList == b.toList
 | _, _ => false
def eqVs : List Value → List Value → Bool
 | [], _ => true
 | a :: as, b :: bs => eqV a b && eqVs as bs
 | _ :: _, [] => false
theorem eqV_iff {l : Lf} {a b : Value} (ha : okC l a) (hb : okC l b) : eqV a b = true ↔ a = b := by
 cases l <;> simp only [okC] at ha hb <;> try exact ha.elim
 · obtain ⟨n, rfl⟩ := ha; obtain ⟨m, rfl⟩ := hb; simp [eqV]
 · obtain ⟨n, rfl⟩ := ha; obtain ⟨m, rfl⟩ := hb; simp [eqV]
 · obtain ⟨n, rfl⟩ := ha; obtain ⟨m, rfl⟩ := hb
   simp only [eqV, beq_iff_eq, Value.string.injEq]
   rw [ByteArray.toList_eq, ByteArray.toList_eq]
   obtain ⟨⟨x⟩⟩ := n; obtain ⟨⟨y⟩⟩ := m
   simp
theorem eqVs_iff : ∀ {ls : List Lf} {as bs : List Value}, okCs ls as → okCs ls bs → (eqVs as bs = true ↔ as = bs)
 | [], _, _, h1, h2 => by cases h1; cases h2; simp [eqVs]
 | l :: ls, _, _, h1, h2 => by
   obtain ⟨a, as, rfl, h3, h4⟩ := h1
   obtain ⟨b, bs, rfl, h5, h6⟩ := h2
   simp [eqVs, eqV_iff h3 h5, eqVs_iff h4 h6]
theorem eqVs_append : ∀ {as bs cs ds : List Value}, as.length = bs.length → eqVs (as ++ cs) (bs ++ ds) = (eqVs as bs && eqVs cs ds)
 | [], [], _, _, _ => by simp [eqVs]
 | a :: as, b :: bs, cs, ds, h => by
   simp only [List.cons_append, eqVs]
   rw [eqVs_append (by simpa using h), Bool.and_assoc]
 | [], _ :: _, _, _, h => by simp at h
 | _ :: _, [], _, _, h => by simp at h
def asV (P : Program) (T : TypeId) (cs : List Value) : Value :=
 match P.underlying T with
 | some d => if aggT d then .agg cs.toArray else cs.headD undef
 | none => undef
section
variable {P : Program}
theorem asV_agg {T : TypeId} {d : TypeDesc} {cs : List Value} (h : P.underlying T = some d) (ha : aggT d = true) : asV P T cs = .agg cs.toArray := by
 simp [asV, h, ha]
theorem asV_one {T : TypeId} {d : TypeDesc} {v : Value} (h : P.underlying T = some d) (ha : aggT d = false) : asV P T [v] = v := by
 simp [asV, h, ha]
theorem run_part {T : TypeId} {cs us : List Value} {off : Nat} {d : TypeDesc} (hT : P.underlying T = some d) (hn : P.cellsOf T = us.length) (hne : aggT d = false → us.length = 1)
   (h : (cs.drop off).take us.length = us) (w : World) : (part T cs.toArray off).run P w = .ok (asV P T us) w := by
 cases hd : aggT d with
 | true =>
   rw [asV_agg hT hd]
   have e : cs.toArray.extract off (off + us.length) = us.toArray := by
     simp [h]
   simp [part, run_isAgg' hT, hd, run_sizeOf' hT, hn, h]
 | false =>
   obtain ⟨v, rfl⟩ := List.length_eq_one_iff.1 (hne hd)
   rw [asV_one hT hd]
   have hv : cs[off]? = some v := by
     have : ((cs.drop off).take 1)[0]? = some v := by
       have h' : List.take 1 (List.drop off cs) = [v] := h
       rw [h']; rfl
     rw [List.getElem?_take_of_lt (by omega), List.getElem?_drop] at this
     simpa using this
   simp [part, run_isAgg' hT, hd, hv]
theorem flat_agg {d : Nat} {T : TypeId} {ls : List Lf} (h : flatT P d T = some ls) : ∃ u, P.underlying T = some u ∧ (aggT u = false → ls.length = 1) := by
 cases d with
 | zero => cases h
 | succ d =>
   simp only [flatT] at h
   cases hu : P.underlying T with
   | none => simp [hu] at h
   | some u =>
     refine ⟨u, rfl, fun ha => ?_⟩
     rw [hu] at h
     cases u <;> simp only [aggT, reduceCtorEq] at ha h <;> first | (cases h; rfl) | cases h
theorem eqFields_flat {d D : Nat} (ih : ∀ {T : TypeId} {ls : List Lf} {xs ys : List Value}, flatT P d T = some ls → okCs ls xs → okCs ls ys → ∀ w, (Op.equalIn (D + d) T (asV P T xs) (asV P T ys)).run P w = .ok (eqVs xs ys) w)
   {xs ys : List Value} : ∀ {fs : List Field} {o : Nat} {ls : List Lf}, flatF (flatT P d) P fs o = some ls → okCs ls (xs.drop o) → okCs ls (ys.drop o) →
     ∀ w, (Op.eqFields (D + d) xs.toArray ys.toArray fs).run P w = .ok (eqVs (xs.drop o) (ys.drop o)) w
 | [], o, ls, h, hx, hy, w => by
   simp only [flatF, Option.some.injEq] at h
   subst h
   have hx : xs.drop o = [] := hx
   rw [hx]
   rfl
 | f :: fs, o, ls, h, hx, hy, w => by
   simp only [flatF] at h
   split at h
   · cases h
   · rename_i hf
     have hf1 : ¬ f.name = "_" := fun e => hf (.inl e)
     have hf2 : f.offset = o := by
       by_cases e : f.offset = o
       · exact e
       · exact absurd (.inr e) hf
     subst hf2
     split at h
     · rename_i ms hm
       split at h
       · rename_i hc
         cases hr : flatF (flatT P d) P fs (f.offset + ms.length) with
         | none => simp [hr] at h
         | some rs =>
           simp only [hr, Option.map_some, Option.some.injEq] at h
           subst h
           obtain ⟨hx1, hx2⟩ := okCs_append hx
           obtain ⟨hy1, hy2⟩ := okCs_append hy
           rw [List.drop_drop] at hx2 hy2
           obtain ⟨u, hu, hun⟩ := flat_agg hm
           have lx := okCs_length hx1
           have ly := okCs_length hy1
           have p1 := run_part (cs := xs) (off := f.offset) (us := (xs.drop f.offset).take ms.length) hu (by rw [hc, lx]) (fun ha => by rw [lx]; exact hun ha) (by rw [lx])
           have p2 := run_part (cs := ys) (off := f.offset) (us := (ys.drop f.offset).take ms.length) hu (by rw [hc, ly]) (fun ha => by rw [ly]; exact hun ha) (by rw [ly])
           have e := fun w => ih hm hx1 hy1 w
           have r := eqFields_flat ih (fs := fs) hr hx2 hy2
           have hfinal : eqVs (xs.drop f.offset) (ys.drop f.offset) = (eqVs ((xs.drop f.offset).take ms.length) ((ys.drop f.offset).take ms.length) && eqVs (xs.drop (f.offset + ms.length)) (ys.drop (f.offset + ms.length))) := by
             rw [← eqVs_append (by rw [lx, ly])]
             simp only [← List.drop_drop, List.take_append_drop]
           simp only [Op.eqFields, ne_eq, hf1, not_false_eq_true, if_true, Sem.run_bind, p1, p2, e, Result.andThen]
           rw [hfinal]
           cases eqVs ((xs.drop f.offset).take ms.length) ((ys.drop f.offset).take ms.length)
           · simp
           · simpa using r w
       · cases h
     · cases h
theorem reps_length (ls : List Lf) : ∀ n, (reps ls n).length = n * ls.length
 | 0 => by simp [reps]
 | n + 1 => by simp [reps, reps_length ls n, Nat.add_mul, Nat.add_comm]
theorem eqArr_flat {d D : Nat} (ih : ∀ {T : TypeId} {ls : List Lf} {xs ys : List Value}, flatT P d T = some ls → okCs ls xs → okCs ls ys → ∀ w, (Op.equalIn (D + d) T (asV P T xs) (asV P T ys)).run P w = .ok (eqVs xs ys) w)
   {e : TypeId} {ls : List Lf} {u : TypeDesc} (hu : P.underlying e = some u) (hun : aggT u = false → ls.length = 1) (hl : flatT P d e = some ls) (hc : P.cellsOf e = ls.length) {xs ys : List Value} :
   ∀ (n i : Nat), okCs (reps ls n) (xs.drop (i * ls.length)) → okCs (reps ls n) (ys.drop (i * ls.length)) → ∀ w,
     Sem.run P (do
       let r ← forIn (List.range' i n) ((none : Option Bool), ()) fun i _ => do
         let a ← part e xs.toArray (i * ls.length)
         let b ← part e ys.toArray (i * ls.length)
         let t ← Op.equalIn (D + d) e a b
         if (!t) = true then pure (ForInStep.done (some false, ())) else pure (ForInStep.yield (none, ()))
       match r.1 with
       | some b => pure b
       | none => pure true) w = .ok (eqVs (xs.drop (i * ls.length)) (ys.drop (i * ls.length))) w
 | 0, i, hx, hy, w => by
   have hx : xs.drop (i * ls.length) = [] := hx
   rw [hx]
   simp [eqVs]
 | n + 1, i, hx, hy, w => by
   obtain ⟨hx1, hx2⟩ := okCs_append hx
   obtain ⟨hy1, hy2⟩ := okCs_append hy
   rw [List.drop_drop, show i * ls.length + ls.length = (i + 1) * ls.length by rw [Nat.add_mul, Nat.one_mul]] at hx2 hy2
   have lx := okCs_length hx1
   have ly := okCs_length hy1
   have p1 := run_part (cs := xs) (off := i * ls.length) (us := (xs.drop (i * ls.length)).take ls.length) hu (by rw [hc, lx]) (fun ha => by rw [lx]; exact hun ha) (by rw [lx])
   have p2 := run_part (cs := ys) (off := i * ls.length) (us := (ys.drop (i * ls.length)).take ls.length) hu (by rw [hc, ly]) (fun ha => by rw [ly]; exact hun ha) (by rw [ly])
   have e1 := fun w => ih hl hx1 hy1 w
   have r := eqArr_flat ih hu hun hl hc n (i + 1) hx2 hy2 w
   have hfinal : eqVs (xs.drop (i * ls.length)) (ys.drop (i * ls.length)) = (eqVs ((xs.drop (i * ls.length)).take ls.length) ((ys.drop (i * ls.length)).take ls.length) && eqVs (xs.drop ((i + 1) * ls.length)) (ys.drop ((i + 1) * ls.length))) := by
     rw [← eqVs_append (by rw [lx, ly]), show (i + 1) * ls.length = i * ls.length + ls.length by rw [Nat.add_mul, Nat.one_mul]]
     simp only [← List.drop_drop, List.take_append_drop]
   rw [hfinal]
   simp only [List.range'_succ, List.forIn_cons, Sem.run_bind, p1, p2, e1, Result.andThen]
   cases eqVs ((xs.drop (i * ls.length)).take ls.length) ((ys.drop (i * ls.length)).take ls.length)
   · simp
   · simpa [Result.andThen] using r
theorem equalIn_flat (D : Nat) : ∀ (d : Nat) {T : TypeId} {ls : List Lf} {xs ys : List Value}, flatT P d T = some ls → okCs ls xs → okCs ls ys → ∀ w, (Op.equalIn (D + d) T (asV P T xs) (asV P T ys)).run P w = .ok (eqVs xs ys) w
 | 0, _, _, _, _, h, _, _, _ => by cases h
 | d + 1, T, ls, xs, ys, h, hx, hy, w => by
   have ih := @equalIn_flat D d
   simp only [flatT] at h
   cases hu : P.underlying T with
   | none => simp [hu] at h
   | some u =>
     rw [hu] at h
     cases u with
     | int k =>
       simp only [Option.some.injEq] at h; subst h
       obtain ⟨x, _, rfl, ⟨n, rfl⟩, rfl⟩ := hx
       obtain ⟨y, _, rfl, ⟨m, rfl⟩, rfl⟩ := hy
       rw [asV_one hu rfl, asV_one hu rfl]
       show (Op.equalIn (D + d + 1) T _ _).run P w = _
       simp [Op.equalIn, run_underlying' hu, eqVs, eqV]
     | bool =>
       simp only [Option.some.injEq] at h; subst h
       obtain ⟨x, _, rfl, ⟨n, rfl⟩, rfl⟩ := hx
       obtain ⟨y, _, rfl, ⟨m, rfl⟩, rfl⟩ := hy
       rw [asV_one hu rfl, asV_one hu rfl]
       show (Op.equalIn (D + d + 1) T _ _).run P w = _
       simp [Op.equalIn, run_underlying' hu, eqVs, eqV]
     | string =>
       simp only [Option.some.injEq] at h; subst h
       obtain ⟨x, _, rfl, ⟨n, rfl⟩, rfl⟩ := hx
       obtain ⟨y, _, rfl, ⟨m, rfl⟩, rfl⟩ := hy
       rw [asV_one hu rfl, asV_one hu rfl]
       show (Op.equalIn (D + d + 1) T _ _).run P w = _
       simp [Op.equalIn, run_underlying' hu, eqVs, eqV, beq_toListBytes]
     | struct fs =>
       simp only at h
       split at h
       · cases h
       · rename_i hp
         rw [asV_agg hu rfl, asV_agg hu rfl]
         have hfo : P.fieldsOf T = fs := by simp [Program.fieldsOf, hu]
         show (Op.equalIn (D + d + 1) T _ _).run P w = _
         rw [run_equalIn_struct w (D + d) T xs.toArray ys.toArray (by rw [hfo]; exact hu) (by simpa using hp), hfo]
         have := eqFields_flat (D := D) ih (xs := xs) (ys := ys) h (by simpa using hx) (by simpa using hy) w
         simpa using this
     | array n e =>
       simp only at h
       split at h
       · rename_i ms hm
         split at h
         · rename_i hc
           simp only [Option.some.injEq] at h; subst h
           obtain ⟨u, hu2, hun⟩ := flat_agg hm
           rw [asV_agg hu rfl, asV_agg hu rfl]
           show (Op.equalIn (D + d + 1) T _ _).run P w = _
           have := eqArr_flat (D := D) ih hu2 hun hm hc (xs := xs) (ys := ys) n 0 (by simpa using hx) (by simpa using hy) w
           rw [Nat.zero_mul, List.drop_zero, List.drop_zero] at this
           rw [← this]
           simp only [Op.equalIn, Sem.run_bind, run_underlying' hu, run_sizeOf' hu2, Result.andThen, hc, Std.Legacy.Range.forIn_eq_forIn_range', Std.Legacy.Range.size]
           simp
           congr 1
           funext a w
           obtain ⟨o, _⟩ := a
           cases o <;> rfl
         · cases h
       · cases h
     | _ => cases h
theorem AggEq.flat {T : TypeId} {d : TypeDesc} {ls : List Lf} {xs ys : List Value} (hT : P.underlying T = some d) (ha : aggT d = true) (hf : flatT P 8 T = some ls) (hg : P.eqGuardType P.depth T = false)
   (hx : okCs ls xs) (hy : okCs ls ys) : AggEq P T xs.toArray ys.toArray (eqVs xs ys) := by
 refine ⟨hg, fun w => ?_⟩
 have := equalIn_flat (P := P) 9992 8 hf hx hy w
 rwa [asV_agg hT ha, asV_agg hT ha] at this
end
end Gx
namespace Gx
open Go Go.RowKit
theorem wr8 {n : Int} (h0 : 0 ≤ n) (h1 : n ≤ 255) : IntKind.u8.wrap n = n := by
 simp only [IntKind.wrap, IntKind.signed, IntKind.bits]; simp; omega
theorem wr16 {n : Int} (h0 : 0 ≤ n) (h1 : n ≤ 65535) : IntKind.u16.wrap n = n := by
 simp only [IntKind.wrap, IntKind.signed, IntKind.bits]; simp; omega
theorem wr32 {n : Int} (h0 : 0 ≤ n) (h1 : n ≤ 4294967295) : IntKind.u32.wrap n = n := by
 simp only [IntKind.wrap, IntKind.signed, IntKind.bits]; simp; omega
theorem wr64 {n : Int} (h0 : 0 ≤ n) (h1 : n ≤ 18446744073709551615) : IntKind.u64.wrap n = n := by
 simp only [IntKind.wrap, IntKind.signed, IntKind.bits]; simp; omega
theorem wr8m (n : Int) : IntKind.u8.wrap n = n % 256 := by
 simp only [IntKind.wrap, IntKind.signed, IntKind.bits]; simp
theorem wr16m (n : Int) : IntKind.u16.wrap n = n % 65536 := by
 simp only [IntKind.wrap, IntKind.signed, IntKind.bits]; simp
theorem wr64m (n : Int) : IntKind.u64.wrap n = n % 18446744073709551616 := by
 simp only [IntKind.wrap, IntKind.signed, IntKind.bits]; simp
theorem tdiv_nn {a b : Int} (h : 0 ≤ a) : Int.tdiv a b = a / b := Int.tdiv_eq_ediv_of_nonneg h
theorem tmod_nn {a b : Int} (h : 0 ≤ a) : Int.tmod a b = a % b := Int.tmod_eq_emod_of_nonneg h
def S (l : List UInt8) : ByteArray := ⟨l.toArray⟩
theorem S_toList (l : List UInt8) : (S l).toList = l := ByteArray.toList_mk l
theorem S_size (l : List UInt8) : (S l).size = l.length := rfl
theorem S_append (a b : List UInt8) : S a ++ S b = S (a ++ b) := by
 apply ByteArray.ext
 show (S a ++ S b).data = _
 rw [ByteArray.data_append]
 simp [S]
theorem S_extract (l : List UInt8) (a b : Nat) : (S l).extract a b = S ((l.drop a).take (b - a)) := by
 apply ByteArray.ext
 rw [ByteArray.data_extract]
 apply Array.toList_inj.1
 simp [S]
theorem S_byteAt (l : List UInt8) (i : Nat) : byteAt (S l) i = l[i]? := rfl
theorem S_beq (a b : List UInt8) : (ByteArray.toList (S a) == ByteArray.toList (S b)) = (a == b) := by rw [S_toList, S_toList]
theorem bstr_eq (ns : List Int) : bstr ns = S (ns.map fun n => UInt8.ofNat n.toNat) := by
 have h : ∀ (ns : List Int) (r : List UInt8), ns.foldl (fun r n => r.push (UInt8.ofNat n.toNat)) (S r) = S (r ++ ns.map fun n => UInt8.ofNat n.toNat) := by
   intro ns
   induction ns with
   | nil => intro r; simp
   | cons n ns ih =>
     intro r
     have e : (S r).push (UInt8.ofNat n.toNat) = S (r ++ [UInt8.ofNat n.toNat]) := by
       apply ByteArray.ext
       simp [S, ByteArray.push]
     simp only [List.foldl_cons, e, ih, List.map_cons, List.append_assoc, List.cons_append, List.nil_append]
 exact h ns []
def dig (d : Nat) : UInt8 := UInt8.ofNat (if d < 10 then 48 + d else 87 + d)
def numB (b : Nat) (n : Nat) : List UInt8 := if _h : 2 ≤ b ∧ b ≤ n then numB b (n / b) ++ [dig (n % b)] else [dig n]
termination_by n
decreasing_by exact Nat.div_lt_self (by omega) (by omega)
theorem numB_lt {b n : Nat} (h : n < b) : numB b n = [dig n] := by rw [numB, dif_neg (by omega)]
theorem numB_ge {b n : Nat} (hb : 2 ≤ b) (h : b ≤ n) : numB b n = numB b (n / b) ++ [dig (n % b)] := by rw [numB, dif_pos ⟨hb, h⟩]
def decN (n : Nat) (k : Nat) : List UInt8 := (List.range k).map fun j => UInt8.ofNat (48 + n / 10 ^ (k - 1 - j) % 10)
theorem decN_succ (n k : Nat) : decN n (k + 1) = decN (n / 10) k ++ [UInt8.ofNat (48 + n % 10)] := by
 unfold decN
 rw [List.range_succ, List.map_append]
 congr 1
 · apply List.map_congr_left
   intro j hj
   have hj := List.mem_range.1 hj
   rw [Nat.div_div_eq_div_mul, show k + 1 - 1 - j = (k - 1 - j) + 1 by omega, Nat.pow_succ, Nat.mul_comm (10 ^ (k - 1 - j)) 10]
 · simp
theorem numB_dec : ∀ (k n : Nat), n < 10 ^ (k + 1) → 10 ^ k ≤ n ∨ k = 0 → numB 10 n = decN n (k + 1)
 | 0, n, h, _ => by
   have h : n < 10 := by simpa using h
   rw [numB_lt h]
   simp [decN, dig, h, Nat.mod_eq_of_lt h]
 | k + 1, n, h, h2 => by
   have h2 : 10 ^ (k + 1) ≤ n := by rcases h2 with h2 | h2; exact h2; omega
   have h3 : 10 ≤ n := Nat.le_trans (by rw [Nat.pow_succ]; have := Nat.one_le_pow k 10 (by omega); omega) h2
   rw [numB_ge (by omega) h3, decN_succ, numB_dec k (n / 10) (by rw [Nat.pow_succ] at h; omega) (.inl (by rw [Nat.pow_succ] at h2; omega))]
   have : n % 10 < 10 := Nat.mod_lt _ (by omega)
   simp [dig, this]
theorem numB_length_pos (b n : Nat) : 1 ≤ (numB b n).length := by
 rw [numB]; split <;> simp
theorem numB_ne (b n : Nat) : numB b n ≠ [] := by
 intro h; have := numB_length_pos b n; rw [h] at this; simp at this
theorem add_add (A : Addr) (n m : Nat) : (A.add n).add m = A.add (n + m) := by
 unfold Addr.add
 by_cases h1 : n = 0
 · subst h1; simp
 · by_cases h2 : m = 0
   · subst h2; simp
   · rw [if_neg h1, if_neg h2, if_neg (by omega)]
     simp [Nat.add_assoc]
def bufV (m : Nat) (f : Nat → Int) : Array Value := ((List.range m).map fun i => Value.int .u8 (f i)).toArray
def put (f : Nat → Int) (i : Nat) (v : Int) : Nat → Int := fun j => if j = i then v else f j
theorem bufV_size (m : Nat) (f : Nat → Int) : (bufV m f).size = m := by simp [bufV]
theorem bufV_get {m : Nat} {f : Nat → Int} {i : Nat} (h : i < m) : (bufV m f)[i]? = some (.int .u8 (f i)) := by
 simp [bufV, h]
theorem bufV_set {m : Nat} {f : Nat → Int} {i : Nat} {v : Int} : (bufV m f).setIfInBounds i (.int .u8 v) = bufV m (put f i v) := by
 apply Array.toList_inj.1
 simp only [Array.toList_setIfInBounds, bufV]
 apply List.ext_getElem
 · simp
 · intro j h1 h2
   simp only [List.getElem_set, List.getElem_map, List.getElem_range, put]
   by_cases h : i = j
   · subst h; simp
   · rw [if_neg h, if_neg (fun e => h e.symm)]
theorem Blk.shape {w : World} {b : Nat} {c : Array Value} {T : TypeId} (h : Blk w b c T) : w.shape? b = some (T, c.size) := by
 unfold Blk at h
 simp [World.shape?, h]
structure Buf (w : World) (b : Nat) (T : TypeId) (m : Nat) (f : Nat → Int) : Prop where
 blk : Blk w b (bufV m f) T
section
variable {w w' : World} {b m i : Nat} {T : TypeId} {f : Nat → Int}
theorem Buf.cell (h : Buf w b T m f) {A : Addr} (hA : A = ⟨b, i, none⟩) (hi : i < m) : w.cell? A = some (.int .u8 (f i)) := by
 subst hA; rw [h.blk.cell, bufV_get hi]
theorem Buf.frozen (h : Buf w b T m f) {A : Addr} (hA : A = ⟨b, i, none⟩) : w.frozen? A = false := by
 subst hA; exact h.blk.frozen _ rfl
theorem Buf.set (h : Buf w b T m f) {A : Addr} (hA : A = ⟨b, i, none⟩) (v : Int) : Buf (w.setCell A (.int .u8 v)) b T m (put f i v) := by
 subst hA; constructor; rw [← bufV_set]; exact h.blk.set i _
theorem Buf.drew (h : Buf w b T m f) : Buf w.drew b T m f := ⟨h.blk⟩
theorem Chg.cellB {w0 w : World} {b i : Nat} (h : Chg (fun q => q = b) w0 w) (v : Value) : Chg (fun q => q = b) w0 (w.setCell ⟨b, i, none⟩ v) := Chg.set h (fun _ => rfl) v
theorem Chg.setsB {w0 w : World} {b i : Nat} (h : Chg (fun q => q = b) w0 w) (vs : List Value) (j : Nat) : Chg (fun q => q = b) w0 (Gx.setCells w ⟨b, i, none⟩ j vs) := Chg.setCells (W := fun q => q = b) (A := ⟨b, i, none⟩) (fun _ => rfl) vs j h
theorem Buf.src (h : Buf w b T m f) {o n c : Nat} (hn : o + n ≤ m) : Src 1 w ⟨some ⟨b, o, none⟩, n, c⟩ ((List.range n).map fun i => Value.int .u8 (f (o + i))) := by
 refine ⟨by simp, (fun h => by cases h), fun a ha => ?_⟩
 cases ha
 rw [rdCells_blk h.blk _ _ _ (by rw [bufV_size]; simp; exact hn)]
 congr 1
 apply List.ext_getElem
 · simp [bufV]; omega
 · intro j h1 h2
   simp [bufV]
end
theorem cut_some {b o : Nat} {z l m : Nat} (h : m ≠ l) : cutA (some (Addr.mk b o none)) z l m = some ⟨b, o + l * z, none⟩ := by
 simp [cutA, h, add_mk]
theorem Ext.trans {a b c : World} (h1 : Ext a b) (h2 : Ext b c) : Ext a c := Chg.trans h1 h2
theorem Ext.of_new {w0 w1 w2 : World} {W : Nat → Prop} (h1 : Ext w0 w1) (h2 : Chg W w1 w2) (h : ∀ k, W k → w0.heap.size ≤ k) : Ext w0 w2 :=
 ⟨h2.os.trans h1.os, h2.tape.trans h1.tape, h2.output.trans h1.output, Nat.le_trans h1.size h2.size, fun k hk _ => by
   rw [h2.block k (Nat.lt_of_lt_of_le hk h1.size) (fun hW => by have := h k hW; omega), h1.block k hk id]⟩
theorem Ext.set {w0 w1 : World} (h1 : Ext w0 w1) {A : Addr} (hA : w0.heap.size ≤ A.block) (v : Value) : Ext w0 (w1.setCell A v) :=
 Ext.of_new h1 (W := fun k => k = A.block) (Chg.set (W := fun k => k = A.block) (A := A) (.refl _ _) (fun _ => rfl) v) (fun k hk => by subst hk; exact hA)
end Gx
namespace Gx
open Go Go.RowKit
theorem laid_at {P : Program} {w : World} : ∀ {l : List (String × DataW Unit)} {ps : List MemPlace}, DataW.LaidVars P w l ps → ∀ {i : Nat} {n : String} {d : DataW Unit}, l[i]? = some (n, d) →
   ∃ g t cs fuel p, P.globalNamed n = some g ∧ (P.globals[g]?).map (·.type) = some t ∧ w.var? P n = some cs ∧ DataW.trod (fun _ => ()) P w 0 (fun _ => true) false fuel t cs.toList = some (d, p)
 | [], _, _, i, n, d, h => by simp at h
 | (n0, d0) :: r, ps, hl, i, n, d, h => by
   obtain ⟨g, t, cs, fuel, p, q, h1, h2, h3, h4, h5, _⟩ := hl
   cases i with
   | zero =>
     simp at h
     obtain ⟨rfl, rfl⟩ := h
     exact ⟨g, t, cs, fuel, p, h1, h2, h3, h4⟩
   | succ i => exact laid_at h5 (by simpa using h)
theorem mapM_get {α β : Type} {f : α → Option β} : ∀ {l : List α} {r : List β}, l.mapM f = some r → ∀ {i : Nat} {x : α}, l[i]? = some x → ∃ y, r[i]? = some y ∧ f x = some y
 | [], _, _, i, x, hx => by simp at hx
 | a :: l, r, h, i, x, hx => by
   simp only [List.mapM_cons] at h
   cases ha : f a with
   | none => simp [ha] at h
   | some b =>
     cases hl : l.mapM f with
     | none => simp [ha, hl] at h
     | some bs =>
       simp [ha, hl] at h
       subst h
       cases i with
       | zero => simp at hx; subst hx; exact ⟨b, rfl, ha⟩
       | succ i => exact mapM_get hl (by simpa using hx)
theorem laid_ints {P : Program} {w : World} {l : List (String × DataW Unit)} (h : laidMet P l w) {i : Nat} {n : String} {d : DataW Unit} (hm : l[i]? = some (n, d)) {g : Nat} {t e : TypeId} {N : Nat} {k : IntKind} {zs : List Int}
   (hg : P.globalNamed n = some g) (ht : (P.globals[g]?).map (·.type) = some t) (hu : P.underlying t = some (.array N e)) (he : P.underlying e = some (.int k)) (hc : P.cellsOf e = 1) (hd : d = .agg (zs.map fun z => .lit (.int k z))) :
   ∀ j, j < N → w.cell? ⟨g, j, none⟩ = some (.int k (zs.getD j 0)) := by
 intro j hj
 obtain ⟨ps, hl, _⟩ := h
 obtain ⟨g', t', cs, fuel, p, h1, h2, h3, h4⟩ := laid_at hl hm
 obtain rfl := Option.some.inj (hg.symm.trans h1)
 obtain rfl := Option.some.inj (ht.symm.trans h2)
 cases fuel with
 | zero => cases h4
 | succ f =>
   simp only [DataW.trod, hu] at h4
   split at h4
   · rename_i hlen
     cases hmm : (List.range N).mapM fun i => DataW.trod (fun _ => ()) P w 0 (fun _ => true) false f e ((cs.toList.drop (i * P.cellsOf e)).take (P.cellsOf e)) with
     | none => rw [hmm] at h4; simp at h4
     | some xs =>
       rw [hmm] at h4
       simp only [Option.map_some, Option.some.injEq, Prod.mk.injEq, hd, DataW.agg.injEq] at h4
       obtain ⟨y, hy1, hy2⟩ := mapM_get hmm (i := j) (x := j) (by simp [hj])
       rw [hc, Nat.mul_one] at hy2
       cases f with
       | zero => cases hy2
       | succ f =>
         have hx : (xs.map (·.1))[j]? = some y.1 := by rw [List.getElem?_map, hy1]; rfl
         rw [h4.1, List.getElem?_map] at hx
         cases hz : zs[j]? with
         | none => rw [hz] at hx; cases hx
         | some z =>
           rw [hz] at hx
           simp only [Option.map_some, Option.some.injEq] at hx
           obtain ⟨z', e1, e2, _⟩ := DataW.trod_int he hy2
           rw [e2] at hx
           simp only [DataW.lit.injEq, Lit.int.injEq, true_and] at hx
           have h0 : ((cs.toList.drop j).take 1)[0]? = some (.int k z') := by rw [e1]; rfl
           have h5 : cs[j]? = some (.int k z') := by simpa using h0
           rw [World.var?_cell h1 h3 j, h5, List.getD, hz, ← hx]
           rfl
   · cases h4
theorem laid_iface {P : Program} {w : World} {l : List (String × DataW Unit)} (h : laidMet P l w) {i : Nat} {n : String} {d : DataW Unit} (hm : l[i]? = some (n, d)) {g : Nat} {t : TypeId} {ms : Array (String × TypeId)}
   (hg : P.globalNamed n = some g) (ht : (P.globals[g]?).map (·.type) = some t) (hu : P.underlying t = some (.interface ms)) :
   ∃ v, w.cell? ⟨g, 0, none⟩ = some v ∧ (v = .nilIface ∨ ∃ t x, v = .iface t x) := by
 obtain ⟨ps, hl, _⟩ := h
 obtain ⟨g', t', cs, fuel, p, h1, h2, h3, h4⟩ := laid_at hl hm
 obtain rfl := Option.some.inj (hg.symm.trans h1)
 obtain rfl := Option.some.inj (ht.symm.trans h2)
 cases fuel with
 | zero => cases h4
 | succ f =>
   have hcs : cs.toList = [.nilIface] ∨ ∃ u v, cs.toList = [.iface u v] := by
     generalize cs.toList = L at h4
     match L, h4 with
     | [], h4 => simp [DataW.trod, hu] at h4
     | _ :: _ :: _, h4 => simp [DataW.trod, hu] at h4
     | [v], h4 =>
       cases v <;> first
         | exact .inl rfl
         | exact .inr ⟨_, _, rfl⟩
         | (simp [DataW.trod, hu] at h4; done)
   have hc := World.var?_cell h1 h3 0
   rcases hcs with e | ⟨u, v, e⟩
   · refine ⟨.nilIface, ?_, .inl rfl⟩
     rw [hc, ← Array.getElem?_toList, e]; rfl
   · refine ⟨.iface u v, ?_, .inr ⟨u, v, rfl⟩⟩
     rw [hc, ← Array.getElem?_toList, e]; rfl
def okR : Lf → Value → Prop
 | .int k, v => ∃ n : Int, v = .int k n ∧ k.min ≤ n ∧ n ≤ k.max
 | .bool, v => ∃ b : Bool, v = .bool b
 | .str, v => ∃ s : ByteArray, v = .string s ∧ s.size ≤ maxLen
 | _, _ => False
def okRs : List Lf → List Value → Prop
 | [], vs => vs = []
 | l :: ls, vs => ∃ v us, vs = v :: us ∧ okR l v ∧ okRs ls us
theorem okRs_mk : ∀ {ls ms : List Lf} {vs us : List Value}, okRs ls vs → okRs ms us → okRs (ls ++ ms) (vs ++ us)
 | [], _, _, _, h, h2 => by cases h; exact h2
 | l :: ls, ms, vs, us, h, h2 => by
   obtain ⟨v, vs, rfl, h1, h⟩ := h
   exact ⟨v, _, rfl, h1, okRs_mk h h2⟩
theorem okRs_app : ∀ {ls ms : List Lf} {vs : List Value}, okRs (ls ++ ms) vs → ∃ us ts, vs = us ++ ts ∧ okRs ls us ∧ okRs ms ts
 | [], _, vs, h => ⟨[], vs, rfl, rfl, h⟩
 | l :: ls, ms, vs, h => by
   obtain ⟨v, us, rfl, h1, h2⟩ := h
   obtain ⟨a, b, rfl, h3, h4⟩ := okRs_app h2
   exact ⟨v :: a, b, rfl, ⟨v, a, rfl, h1, h3⟩, h4⟩
theorem okRs_flatF {P : Program} {fT : TypeId → Option (List Lf)} {cs : List Value} {R : TypeId → List Value → Prop} (ih : ∀ {T : TypeId} {ls : List Lf} {us : List Value}, fT T = some ls → R T us → okRs ls us) :
   ∀ {fs : List Field} {o : Nat} {ls : List Lf}, flatF fT P fs o = some ls → o + ls.length = cs.length → (∀ f ∈ fs, R f.type ((cs.drop f.offset).take (P.cellsOf f.type))) → okRs ls (cs.drop o)
 | [], o, ls, h, hl, _ => by
   simp only [flatF, Option.some.injEq] at h
   subst h
   exact List.drop_of_length_le (by simp at hl; omega)
 | f :: fs, o, ls, h, hl, hr => by
   simp only [flatF] at h
   split at h
   · cases h
   · rename_i hf
     have hf2 : f.offset = o := by
       by_cases e : f.offset = o
       · exact e
       · exact absurd (.inr e) hf
     subst hf2
     split at h
     · rename_i ms hm
       split at h
       · rename_i hc
         cases hr2 : flatF fT P fs (f.offset + ms.length) with
         | none => simp [hr2] at h
         | some rs =>
           simp only [hr2, Option.map_some, Option.some.injEq] at h
           subst h
           have h1 := ih hm (hr f (by simp))
           have h2 := okRs_flatF ih (fs := fs) (cs := cs) hr2 (by simp at hl; omega) (fun g hg => hr g (by simp [hg]))
           rw [hc] at h1
           have := okRs_mk h1 h2
           rwa [← List.drop_drop, List.take_append_drop] at this
       · cases h
     · cases h
theorem okRs_reps {ls : List Lf} {cs : List Value} : ∀ {n i : Nat}, (∀ j, i ≤ j → j < i + n → okRs ls ((cs.drop (j * ls.length)).take ls.length)) → cs.length = (i + n) * ls.length → okRs (reps ls n) (cs.drop (i * ls.length))
 | 0, i, _, hl => List.drop_of_length_le (by simp at hl; omega)
 | n + 1, i, h, hl => by
   have h1 := h i (Nat.le_refl _) (by omega)
   have h2 := okRs_reps (n := n) (i := i + 1) (fun j h1 h2 => h j (by omega) (by omega)) (by rw [hl]; congr 1; omega)
   have := okRs_mk h1 h2
   rw [show (i + 1) * ls.length = i * ls.length + ls.length by rw [Nat.add_mul, Nat.one_mul], ← List.drop_drop, List.take_append_drop] at this
   exact this
theorem okT_flat {P : Program} {w : World} : ∀ (d : Nat) {T : TypeId} {ls : List Lf} {fuel : Nat} {cs : List Value}, flatT P d T = some ls → P.cellsOf T = ls.length → okT P w fuel T cs → okRs ls cs
 | 0, _, _, _, _, h, _, _ => by cases h
 | d + 1, T, ls, fuel, cs, h, hn, ho => by
   cases fuel with
   | zero => cases ho
   | succ f =>
     simp only [flatT] at h
     cases hu : P.underlying T with
     | none => simp [hu] at h
     | some u =>
       rw [hu] at h
       cases u with
       | int k =>
         simp only [Option.some.injEq] at h; subst h
         simp only [okT, hu] at ho
         obtain ⟨n, rfl, h1, h2⟩ := ho
         exact ⟨_, _, rfl, ⟨n, rfl, h1, h2⟩, rfl⟩
       | bool =>
         simp only [Option.some.injEq] at h; subst h
         simp only [okT, hu] at ho
         obtain ⟨b, rfl⟩ := ho
         exact ⟨_, _, rfl, ⟨b, rfl⟩, rfl⟩
       | string =>
         simp only [Option.some.injEq] at h; subst h
         simp only [okT, hu] at ho
         obtain ⟨s, rfl, h1⟩ := ho
         exact ⟨_, _, rfl, ⟨s, rfl, h1⟩, rfl⟩
       | struct fs =>
         simp only at h
         split at h
         · cases h
         · simp only [okT, hu] at ho
           have := okRs_flatF (P := P) (cs := cs) (fT := fun T => if (flatT P d T).isSome ∧ ∀ ms, flatT P d T = some ms → P.cellsOf T = ms.length then flatT P d T else none) (R := fun T us => okT P w f T us) (fun {T} {ls} {us} h1 h2 => by
             split at h1
             · rename_i hh; exact okT_flat d h1 (hh.2 _ h1) h2
             · cases h1) (fs := fs.toList) (o := 0) (ls := ls) (by
               have key : ∀ (fs : List Field) (o : Nat) (ls : List Lf), flatF (flatT P d) P fs o = some ls → flatF (fun T => if (flatT P d T).isSome ∧ ∀ ms, flatT P d T = some ms → P.cellsOf T = ms.length then flatT P d T else none) P fs o = some ls := by
                 intro fs
                 induction fs with
                 | nil => intro o ls h; exact h
                 | cons g fs ih =>
                   intro o ls h
                   simp only [flatF] at h ⊢
                   split at h
                   · cases h
                   · rename_i hg
                     rw [if_neg hg]
                     split at h
                     · rename_i ms hm
                       split at h
                       · rename_i hc
                         have hcond : (flatT P d g.type).isSome ∧ ∀ ms, flatT P d g.type = some ms → P.cellsOf g.type = ms.length := by
                           refine ⟨by simp [hm], fun ms' h' => ?_⟩
                           rw [hm] at h'; cases h'; exact hc
                         rw [if_pos hcond, hm]
                         simp only
                         rw [if_pos hc]
                         cases hr : flatF (flatT P d) P fs (o + ms.length) with
                         | none => rw [hr] at h; cases h
                         | some rs => rw [hr] at h; rw [ih _ _ hr]; exact h
                       · cases h
                     · cases h
               exact key _ _ _ h) (by rw [ho.1, hn]; simp) (fun g hg => ho.2 g (by simpa using hg))
           simpa using this
       | array n e =>
         simp only at h
         split at h
         · rename_i ms hm
           split at h
           · rename_i hc
             simp only [Option.some.injEq] at h; subst h
             simp only [okT, hu] at ho
             have := okRs_reps (ls := ms) (cs := cs) (n := n) (i := 0) (fun j _ hj => by
               have := ho.2 j (by omega)
               rw [hc] at this
               exact okT_flat d hm hc this) (by rw [ho.1, hn, reps_length]; simp)
             simpa using this
           · cases h
         · cases h
       | _ => cases h
theorem okRs_bytes : ∀ {n : Nat} {cs : List Value}, okRs (List.replicate n (.int .u8)) cs → ∃ l : List UInt8, l.length = n ∧ cs = l.map fun b => Value.int .u8 ((b.toNat : Nat) : Int)
 | 0, cs, h => ⟨[], rfl, h⟩
 | n + 1, cs, h => by
   obtain ⟨v, us, rfl, ⟨z, rfl, h0, h1⟩, h2⟩ := h
   obtain ⟨l, hl, rfl⟩ := okRs_bytes h2
   obtain ⟨h0, h1⟩ := u8_range h0 h1
   refine ⟨UInt8.ofNat z.toNat :: l, by simp [hl], ?_⟩
   simp only [List.map_cons, List.cons.injEq, Value.int.injEq, true_and, and_true]
   have e : (UInt8.ofNat z.toNat).toNat = z.toNat := by simp; omega
   omega
end Gx
namespace Gx
open Go Go.RowKit
section
variable {α : Type} {P : Program} {w : World} {kT eT T : TypeId} {enc : α → Value}
def entM (enc : α → Value) (x : α × Value × Nat) : MapEntry := ⟨enc x.1, x.2.1, x.2.2⟩
def kvM (x : α × Value × Nat) : α × Value := (x.1, x.2.1)
def lkM [DecidableEq α] (k : α) : List (α × Value × Nat) → Nat → Option (Nat × Value)
 | [], _ => none
 | x :: L, i => if k = x.1 then some (i, x.2.1) else lkM k L (i + 1)
theorem modify_at {β : Type} (f : β → β) (x : β) (L2 : List β) : ∀ L1 : List β, (L1 ++ x :: L2).modify L1.length f = L1 ++ f x :: L2
 | [] => rfl
 | y :: L1 => by
   show y :: ((L1 ++ x :: L2).modify L1.length f) = _
   rw [modify_at f x L2 L1]; rfl
structure KeyT [DecidableEq α] (P : Program) (kT : TypeId) (enc : α → Value) : Prop where
 find : ∀ (L : List (α × Value × Nat)) (k : α) (w : World), (Instr.findKey kT (enc k) (L.map (entM enc))).run P w = .ok (lkM k L 0) w
 check : ∀ (b : Bool) (k : α) (w : World), (Instr.checkKey b 10000 kT (enc k)).run P w = .ok () w
 bits : ∀ k, Instr.sameBits 10000 (enc k) (enc k) = true
theorem lkM_none [DecidableEq α] {k : α} : ∀ {L : List (α × Value × Nat)} {i : Nat}, (∀ x ∈ L, x.1 ≠ k) → lkM k L i = none
 | [], _, _ => rfl
 | x :: L, i, h => by
   rw [lkM, if_neg (fun e => h x (by simp) e.symm)]
   exact lkM_none fun y hy => h y (by simp [hy])
theorem lkM_at [DecidableEq α] {k : α} {v : Value} {n : Nat} {L2 : List (α × Value × Nat)} : ∀ {L1 : List (α × Value × Nat)} {i : Nat}, (∀ x ∈ L1, x.1 ≠ k) → lkM k (L1 ++ (k, v, n) :: L2) i = some (i + L1.length, v)
 | [], i, _ => by simp [lkM]
 | x :: L, i, h => by
   rw [List.cons_append, lkM, if_neg (fun e => h x (by simp) e.symm), lkM_at fun y hy => h y (by simp [hy])]
   simp; omega
theorem KeyT.int {k : IntKind} (hu : P.underlying kT = some (.int k)) : KeyT P kT (fun n : Int => Value.int k n) where
 find L n w := by
   have h : ∀ (L : List (Int × Value × Nat)) (i : Nat), Instr.findNow (.int k) (.int k n) (L.map (entM fun n : Int => Value.int k n)) i = some (lkM n L i) := by
     intro L
     induction L with
     | nil => intro i; rfl
     | cons x L ih =>
       intro i
       simp only [List.map_cons, Instr.findNow, entM, Instr.sameNow, if_true, lkM]
       by_cases hx : n = x.1
       · subst hx; simp
       · rw [if_neg hx, show (n == x.1) = false by simpa using hx]
         exact ih (i + 1)
   simp [Instr.findKey, run_underlying' hu, h]
 check b n w := by
   show (Instr.checkKey b (9999 + 1) kT (.int k n)).run P w = _
   unfold Instr.checkKey
   simp only [Sem.run_bind, run_underlying' hu, Result.andThen]
   rfl
 bits n := by
   show (k == k && n == n) = true
   simp
theorem KeyT.agg [DecidableEq α] {d : TypeDesc} (hu : P.underlying kT = some d) (hd : aggT d = true) (heq : ∀ a b w, (Op.equal kT (enc a) (enc b)).run P w = .ok (decide (a = b)) w)
   (hc : ∀ (b : Bool) (k : α) (w : World), (Instr.checkKey b 10000 kT (enc k)).run P w = .ok () w) (hb : ∀ k, Instr.sameBits 10000 (enc k) (enc k) = true) : KeyT P kT enc where
 find L k w := by
   have h : ∀ (L : List (α × Value × Nat)) (i : Nat), (Instr.findAsking kT (enc k) (L.map (entM enc)) i).run P w = .ok (lkM k L i) w := by
     intro L
     induction L with
     | nil => intro i; rfl
     | cons x L ih =>
       intro i
       simp only [List.map_cons, Instr.findAsking, entM, Sem.run_bind, heq, Result.andThen, lkM]
       by_cases hx : k = x.1
       · simp [hx]
       · simp only [hx, decide_false, Bool.false_eq_true, if_false]
         exact ih (i + 1)
   rw [run_findKey_eq w (by rw [hu]; cases d <;> simp [aggT] at hd ⊢) (enc k) _]
   exact h L 0
 check := hc
 bits := hb
def MapK (w : World) (r : Nat) (enc : α → Value) (M : List (α × Value)) : Prop :=
 ∃ (L : List (α × Value × Nat)) (clk : Nat), w.heap[r]? = some (.map (L.map (entM enc)).toArray clk) ∧ (L.map kvM).Perm M ∧ (L.map (·.1)).Nodup ∧ (L.map (·.2.2)).Nodup ∧ ∀ x ∈ L, x.2.2 < clk
def MapE (w : World) (r : Nat) (enc : α → Value) (M : List (α × Value)) (k : α) (v : Value) (st : Int) : Prop :=
 ∃ (L1 L2 : List (α × Value × Nat)) (n clk : Nat), w.heap[r]? = some (.map ((L1 ++ (k, v, n) :: L2).map (entM enc)).toArray clk) ∧ ((L1 ++ L2).map kvM).Perm M ∧ ((L1 ++ (k, v, n) :: L2).map (·.1)).Nodup ∧ ((L1 ++ (k, v, n) :: L2).map (·.2.2)).Nodup ∧ (∀ x ∈ L1 ++ (k, v, n) :: L2, x.2.2 < clk) ∧ st = (n : Int)
variable {r : Nat} {M M' : List (α × Value)} {k : α} {v : Value} {st : Int} {w' : World}
theorem MapK.lt (h : MapK w r enc M) : r < w.heap.size := by
 obtain ⟨L, clk, h, _⟩ := h
 exact (Array.getElem?_eq_some_iff.1 h).1
theorem MapK.chg {W : Nat → Prop} (h : MapK w r enc M) (hc : Chg W w w') (hr : ¬ W r) : MapK w' r enc M := by
 have hl := h.lt
 obtain ⟨L, clk, h, hh⟩ := h
 exact ⟨L, clk, by rw [hc.block r hl hr]; exact h, hh⟩
theorem MapK.ext (h : MapK w r enc M) (hc : Ext w w') : MapK w' r enc M := h.chg hc id
theorem MapK.perm (h : MapK w r enc M) (hp : M.Perm M') : MapK w r enc M' := by
 obtain ⟨L, clk, h, h1, hh⟩ := h
 exact ⟨L, clk, h, h1.trans hp, hh⟩
theorem MapE.lt (h : MapE w r enc M k v st) : r < w.heap.size := by
 obtain ⟨L1, L2, n, clk, h, _⟩ := h
 exact (Array.getElem?_eq_some_iff.1 h).1
theorem MapK.split (h : MapK w r enc ((k, v) :: M)) : ∃ n, MapE w r enc M k v (n : Nat) := by
 obtain ⟨L, clk, h, h1, h2, h3, h4⟩ := h
 have hm : (k, v) ∈ L.map kvM := h1.mem_iff.2 (by simp)
 obtain ⟨x, hx, hkv⟩ := List.mem_map.1 hm
 obtain ⟨L1, L2, rfl⟩ := List.append_of_mem hx
 obtain ⟨k', v', n⟩ := x
 simp only [kvM, Prod.mk.injEq] at hkv
 obtain ⟨rfl, rfl⟩ := hkv
 refine ⟨n, L1, L2, n, clk, h, ?_, h2, h3, h4, rfl⟩
 rw [List.map_append, List.map_cons] at h1
 have := (List.perm_middle.symm.trans h1)
 rw [List.map_append]
 exact this.cons_inv
theorem MapK.mem_split (hm : (k, v) ∈ M) : ∃ M', M.Perm ((k, v) :: M') := by
 obtain ⟨A, B, rfl⟩ := List.append_of_mem hm
 exact ⟨A ++ B, List.perm_middle⟩
def setO (w : World) (r : Nat) (o : Obj) : World := { w with heap := w.heap.setIfInBounds r o }
theorem setO_chg (w : World) (r : Nat) (o : Obj) : Chg (fun q => q = r) w (setO w r o) :=
 ⟨rfl, rfl, rfl, by simp [setO], fun k _ hk => by
   have : ¬ r = k := fun e => hk e.symm
   simp [setO, this]⟩
theorem setO_size (w : World) (r : Nat) (o : Obj) : (setO w r o).heap.size = w.heap.size := by simp [setO]
theorem setO_get {w : World} {r : Nat} (h : r < w.heap.size) (o : Obj) : (setO w r o).heap[r]? = some o := by simp [setO, h]
theorem run_getObjM {es : Array MapEntry} {clk : Nat} (h : w.heap[r]? = some (.map es clk)) : (getObj r).run P w = .ok (.map es clk) w := by simp [getObj, Sem.run, h]
theorem run_setObjM {es : Array MapEntry} {clk : Nat} (h : w.heap[r]? = some (.map es clk)) (o : Obj) : (setObj r o).run P w = .ok () (setO w r o) := by simp [setObj, Sem.run, h, setO]
theorem nodup_front {L1 L2 : List (α × Value × Nat)} {x : α × Value × Nat} (h : ((L1 ++ x :: L2).map (·.1)).Nodup) : ∀ y ∈ L1, y.1 ≠ x.1 := by
 intro y hy e
 rw [List.map_append, List.map_cons, List.nodup_append] at h
 exact h.2.2 _ (List.mem_map_of_mem hy) _ (List.mem_cons_self ..) e
theorem nodup_frontB {L1 L2 : List (α × Value × Nat)} {x : α × Value × Nat} (h : ((L1 ++ x :: L2).map (·.2.2)).Nodup) : ∀ y ∈ L1, y.2.2 ≠ x.2.2 := by
 intro y hy e
 rw [List.map_append, List.map_cons, List.nodup_append] at h
 exact h.2.2 _ (List.mem_map_of_mem hy) _ (List.mem_cons_self ..) e
theorem absent {L : List (α × Value × Nat)} (h1 : (L.map kvM).Perm M) (hk : ∀ v, (k, v) ∉ M) : ∀ x ∈ L, x.1 ≠ k := by
 intro x hx e
 refine hk x.2.1 (h1.mem_iff.1 (List.mem_map.2 ⟨x, hx, ?_⟩))
 simp [kvM, e]
theorem MapK.make (T : TypeId) (w : World) : (Instr.makeMap T none).run P w = .ok (.map (some w.heap.size)) (w.alloc (.map #[] 0)) ∧ MapK (w.alloc (.map #[] 0)) w.heap.size enc ([] : List (α × Value)) := by
 refine ⟨by simp [Instr.makeMap], [], 0, ?_, by simp, by simp, by simp, by simp⟩
 show (w.heap.push (.map #[] 0))[w.heap.size]? = _
 simp
theorem MapK.lookup_some [DecidableEq α] (hK : KeyT P kT enc) (hT : P.underlying T = some (.map kT eT)) (h : MapK w r enc M) (hm : (k, v) ∈ M) (ok : Bool) :
   (Instr.lookup T (.map (some r)) (enc k) ok).run P w = .ok (if ok then .tuple #[v, .bool true] else v) w := by
 obtain ⟨M', hp⟩ := MapK.mem_split hm
 obtain ⟨n, L1, L2, n', clk, h, h1, h2, h3, h4, _⟩ := (h.perm hp).split
 have hf := hK.find (L1 ++ (k, v, n') :: L2) k w
 rw [lkM_at (nodup_front h2)] at hf
 simp only [Instr.lookup, Sem.run_bind, run_underlying' hT, Result.andThen, run_getObjM h, Sem.run_pure, hK.check, hf]
theorem MapK.lookup_none [DecidableEq α] (hK : KeyT P kT enc) (hT : P.underlying T = some (.map kT eT)) {i : TypeInfo} {z : Value} (hi : P.info? eT = some i) (hz : i.zero = some z) (h : MapK w r enc M) (hm : ∀ v, (k, v) ∉ M) (ok : Bool) :
   (Instr.lookup T (.map (some r)) (enc k) ok).run P w = .ok (if ok then .tuple #[z, .bool false] else z) w := by
 obtain ⟨L, clk, h, h1, h2, h3, h4⟩ := h
 have hf := hK.find L k w
 rw [lkM_none (absent h1 hm)] at hf
 simp only [Instr.lookup, Sem.run_bind, run_underlying' hT, Result.andThen, run_getObjM h, Sem.run_pure, hK.check, hf, zeroValue, run_typeInfo' hi, hz]
theorem MapK.entry_new [DecidableEq α] (hK : KeyT P kT enc) (hT : P.underlying T = some (.map kT eT)) {i : TypeInfo} {z : Value} (hi : P.info? eT = some i) (hz : i.zero = some z) (h : MapK w r enc M) (hm : ∀ v, (k, v) ∉ M) :
   ∃ (st : Int) (w1 : World), (Instr.mapEntry T (.map (some r)) (enc k)).run P w = .ok (.tuple #[z, .int .i64 st]) w1 ∧ Chg (fun q => q = r) w w1 ∧ w1.heap.size = w.heap.size ∧ MapE w1 r enc M k z st := by
 have hlt := h.lt
 obtain ⟨L, clk, h, h1, h2, h3, h4⟩ := h
 have hab := absent h1 hm
 have hf := hK.find L k w
 rw [lkM_none hab] at hf
 refine ⟨(clk : Int), setO w r (.map ((L.map (entM enc)).toArray.push ⟨enc k, z, clk⟩) (clk + 1)), ?_, setO_chg _ _ _, setO_size _ _ _, L, [], clk, clk + 1, ?_, ?_, ?_, ?_, ?_, rfl⟩
 · simp only [Instr.mapEntry, Sem.run_bind, run_underlying' hT, Result.andThen, run_getObjM h, Sem.run_pure, hK.check, hf, zeroValue, run_typeInfo' hi, hz, run_setObjM h]
   rfl
 · rw [setO_get hlt]
   simp [entM]
 · simpa using h1
 · rw [List.map_append, List.nodup_append]
   refine ⟨h2, by simp, fun a ha b hb => ?_⟩
   obtain ⟨x, hx, rfl⟩ := List.mem_map.1 ha
   simp only [List.map_cons, List.map_nil, List.mem_singleton] at hb
   subst hb
   exact hab x hx
 · rw [List.map_append, List.nodup_append]
   refine ⟨h3, by simp, fun a ha b hb => ?_⟩
   obtain ⟨x, hx, rfl⟩ := List.mem_map.1 ha
   simp only [List.map_cons, List.map_nil, List.mem_singleton] at hb
   subst hb
   have := h4 x hx
   omega
 · intro x hx
   rcases List.mem_append.1 hx with hx | hx
   · have := h4 x hx; omega
   · rw [List.mem_singleton.1 hx]; show clk < clk + 1; omega
theorem MapE.store (h : MapE w r enc M k v st) (T : TypeId) (v' : Value) :
   ∃ w1 : World, (Instr.entryStore T (.map (some r)) (.int .i64 st) v').run P w = .ok () w1 ∧ Chg (fun q => q = r) w w1 ∧ w1.heap.size = w.heap.size ∧ MapK w1 r enc ((k, v') :: M) := by
 have hlt := h.lt
 obtain ⟨L1, L2, n, clk, h, h1, h2, h3, h4, rfl⟩ := h
 have hx : ((L1 ++ (k, v, n) :: L2).map (entM enc)).toArray.findIdx? (fun e => (e.born : Int) == (n : Int)) = some L1.length := by
   rw [List.findIdx?_toArray, List.findIdx?_eq_some_iff_getElem]
   refine ⟨by simp, by simp [entM], fun j hj => ?_⟩
   have hj2 : j < L1.length := hj
   have e : ((L1 ++ (k, v, n) :: L2).map (entM enc))[j]'(by simp; omega) = entM enc L1[j] := by simp [List.getElem_append, hj2]
   rw [e]
   have hne : (L1[j]).2.2 ≠ n := nodup_frontB h3 L1[j] (List.getElem_mem _)
   simp only [entM]
   intro hb
   have := eq_of_beq hb
   omega
 have hmod : ((L1 ++ (k, v, n) :: L2).map (entM enc)).toArray.modify L1.length (fun e => { e with val := v' }) = ((L1 ++ (k, v', n) :: L2).map (entM enc)).toArray := by
   apply Array.toList_inj.1
   rw [Array.toList_modify, List.map_append, List.map_cons]
   have := modify_at (fun e => { e with val := v' }) (entM enc (k, v, n)) (L2.map (entM enc)) (L1.map (entM enc))
   rw [List.length_map] at this
   rw [this]
   simp [entM]
 refine ⟨setO w r (.map ((L1 ++ (k, v', n) :: L2).map (entM enc)).toArray clk), ?_, setO_chg _ _ _, setO_size _ _ _, L1 ++ (k, v', n) :: L2, clk, setO_get hlt _, ?_, ?_, ?_, ?_⟩
 · simp only [Instr.entryStore, asInt, asIntOf, Sem.run_bind, Result.andThen, run_getObjM h, Sem.run_pure, hx, run_setObjM h, hmod]
 · rw [List.map_append, List.map_cons]
   rw [List.map_append] at h1
   exact List.perm_middle.trans (h1.cons _)
 · simpa using h2
 · simpa using h3
 · intro x hx
   rcases List.mem_append.1 hx with hx | hx
   · exact h4 x (by simp [hx])
   · rcases List.mem_cons.1 hx with rfl | hx
     · exact h4 (k, v, n) (by simp)
     · exact h4 x (by simp [hx])
theorem MapK.delete_some [DecidableEq α] (hK : KeyT P kT enc) (hT : P.underlying T = some (.map kT eT)) {kT' o : TypeId} (h : MapK w r enc ((k, v) :: M)) :
   ∃ w1 : World, (Builtin.delete_ #[T, kT'] o #[.map (some r), enc k]).run P w = .ok (.tuple #[]) w1 ∧ Chg (fun q => q = r) w w1 ∧ w1.heap.size = w.heap.size ∧ MapK w1 r enc M := by
 have hlt := h.lt
 obtain ⟨n, L1, L2, n', clk, h, h1, h2, h3, h4, _⟩ := h.split
 have hf := hK.find (L1 ++ (k, v, n') :: L2) k w
 rw [lkM_at (nodup_front h2), Nat.zero_add] at hf
 have her : ((L1 ++ (k, v, n') :: L2).map (entM enc)).toArray.eraseIdxIfInBounds L1.length = ((L1 ++ L2).map (entM enc)).toArray := by
   apply Array.toList_inj.1
   rw [Array.toList_eraseIdxIfInBounds]
   simp [List.eraseIdx_append_of_length_le]
 refine ⟨setO w r (.map ((L1 ++ L2).map (entM enc)).toArray clk), ?_, setO_chg _ _ _, setO_size _ _ _, L1 ++ L2, clk, setO_get hlt _, h1, ?_, ?_, ?_⟩
 · simp only [Builtin.delete_, List.getElem?_toArray, List.getElem?_cons_zero, List.getElem?_cons_succ, Sem.run_bind, run_underlying' hT, Result.andThen, run_getObjM h, Sem.run_pure, hK.check, hf, run_setObjM h, her]
 · refine List.Nodup.sublist ?_ h2
   rw [List.map_append, List.map_append, List.map_cons]
   exact List.Sublist.append_left (List.sublist_cons_self _ _) _
 · refine List.Nodup.sublist ?_ h3
   rw [List.map_append, List.map_append, List.map_cons]
   exact List.Sublist.append_left (List.sublist_cons_self _ _) _
 · intro x hx
   rcases List.mem_append.1 hx with hx | hx
   · exact h4 x (by simp [hx])
   · exact h4 x (by simp [hx])
theorem MapK.len {kT' : TypeId} (hT : P.underlying T = some (.map kT' eT)) {o : TypeId} (h : MapK w r enc M) : (Builtin.len_ #[T] o #[.map (some r)]).run P w = .ok (.int .i64 ((M.length : Nat) : Int)) w := by
 obtain ⟨L, clk, h, h1, h2, h3, h4⟩ := h
 have hl : L.length = M.length := by rw [← h1.length_eq, List.length_map]
 simp only [Builtin.len_, List.getElem?_toArray, List.getElem?_cons_zero, Sem.run_bind, run_underlying' hT, Result.andThen, run_getObjM h, Sem.run_pure]
 simp [goInt, hl]
end
end Gx
namespace Gx
open Go Go.RowKit
theorem spl_at (c : Array Value) : ∀ (vs : List Value) (i : Nat) (c : Array Value), (spl c i vs).toList.drop (i + vs.length) = c.toList.drop (i + vs.length)
 | [], _, _ => rfl
 | v :: vs, i, c => by
   simp only [spl, List.length_cons]
   rw [show i + (vs.length + 1) = i + 1 + vs.length by omega, spl_at c vs (i + 1) (c.setIfInBounds i v)]
   rw [Array.toList_setIfInBounds, List.drop_set]
   rw [if_pos (by omega)]
theorem toList_spl (vs : List Value) (c : Array Value) (i : Nat) (h : i + vs.length ≤ c.size) : (spl c i vs).toList = c.toList.take i ++ vs ++ c.toList.drop (i + vs.length) := by
 rw [← List.take_append_drop (i + vs.length) (spl c i vs).toList, take_spl vs c i h, spl_at c]
section
variable {P : Program} {w : World}
theorem run_copy_rows {dT sT ty e : TypeId} {d : TypeDesc} {sz : Nat} (hd : P.underlying dT = some (.slice e)) (he : P.underlying e = some d) (hsz : P.cellsOf e = sz) {A : Addr} {dl dc n : Nat} {x : Sl} (hn : Nat.min x.len dl = n) {xs : List Value} (hx : Src sz w ⟨x.a, n, x.cap⟩ xs) (hst : StoreOk w A xs) :
   Sem.run P (Builtin.copy_ #[dT, sT] ty #[.slice (some A) dl dc, .slice x.a x.len x.cap]) w = .ok (.int .i64 ((n : Nat) : Int)) (setCells w A 0 xs) := by
 have hz := run_sizeOf' (w := w) he
 rw [hsz] at hz
 have hf : Sem.run P (Builtin.firstCells sz n (.slice x.a x.len x.cap)) w = .ok xs.toArray w := by
   obtain ⟨a, l, c⟩ := x
   cases a <;> exact run_firstCells (P := P) hx
 have hst' := run_storeCells (P := P) (A := A) xs 0 w (by simpa using hst.1) hst.2
 simp only [Builtin.copy_, List.getElem?_toArray, List.getElem?_cons_zero, List.getElem?_cons_succ, Sem.run_bind, run_underlying' hd, Result.andThen, Builtin.lenOf, Sem.run_pure, hn, hz, hf, hst']
 rfl
set_option maxRecDepth 4000 in
theorem run_append_zeros {ats : Array TypeId} {oT sT xT e : TypeId} {i : TypeInfo} {k : IntKind} {z : Value} {sz n : Nat} {s : Sl} {old : List Value} (h0 : ats[0]? = some sT) (h1 : ats[1]? = some xT)
   (hs : P.underlying sT = some (.slice e)) (hx : P.underlying xT = some (.int k)) (hi : P.info? e = some i) (hd : (P.underlying e).isSome = true) (hz : i.zero = some z) (hzs : z.cells.size = sz) (hsz : P.cellsOf e = sz)
   (hb : i.bytes ≠ 0) (hold : Src sz w s old) (hfit : s.cap < s.len + n) (hsmall : (2 * (s.len + n) + 1000) * i.bytes ≤ 281474976710656) :
   ∃ (nc : Nat) (zs rest : List Value), s.len + n ≤ nc ∧ nc ≤ maxLen ∧ zs.length = n * sz ∧ rest.length = (nc - (s.len + n)) * sz ∧
     Sem.run P (Builtin.append_ ats oT #[.slice s.a s.len s.cap, .int .i64 ((n : Nat) : Int)]) w =
       .ok (.slice (some ⟨w.heap.size, 0, none⟩) (s.len + n) nc) (w.drew.alloc (.cells (old ++ zs ++ rest).toArray e)) := by
 obtain ⟨d, hd⟩ := cells_of _ hd
 have hsz' := run_sizeOf' (w := w) hd
 rw [hsz] at hsz'
 have hcap := nextcap_le hfit
 have hn : Builtin.nextslicecap (s.len + n) s.cap * i.bytes ≤ 281474976710656 := Nat.le_trans (Nat.mul_le_mul_right _ hcap) hsmall
 have hneed : s.len + n ≤ 281474976710656 := by
   have : s.len + n ≤ (2 * (s.len + n) + 1000) * i.bytes := by
     have := Nat.mul_le_mul_left (2 * (s.len + n) + 1000) (Nat.one_le_iff_ne_zero.2 hb)
     omega
   omega
 have hnb : n * i.bytes ≤ 281474976710656 := Nat.le_trans (Nat.mul_le_mul_right _ (by omega : n ≤ 2 * (s.len + n) + 1000)) hsmall
 let q : Question := .appendCap (s.len + n) s.cap e
 let nc : Nat := q.cut (w.tape w.drawn q)
 have hq : q.forced = false := rfl
 have hnc : s.len + n ≤ nc := by show s.len + n ≤ s.len + n + _; omega
 have hnc2 : nc ≤ maxLen := by
   show s.len + n + _ % (2 ^ 63 - (s.len + n)) ≤ 2 ^ 63 - 1
   have := Nat.mod_lt (w.tape w.drawn q) (y := 2 ^ 63 - (s.len + n)) (by omega)
   omega
 have holdd : Src sz w.drew s old := hold.ext (Chg.drew (.refl _ _))
 have hf2 := run_firstCells (P := P) holdd
 have hask : ∀ n (w' : World), (askRoom n).run P w' = .ok () w' := fun n w' => by unfold askRoom; split <;> rfl
 have hchoose : (choose q).run P w = .ok nc w.drew := by
   show Sem.run P (.choose q .pure) w = _
   simp only [Sem.run, hq, Bool.false_eq_true, if_false]
   rfl
 have hti := fun w : World => run_typeInfo' (w := w) hi
 refine ⟨nc, if n * sz = 0 then [] else (Builtin.zeroCells z.cells n).toList, (Builtin.zeroCells z.cells (nc - (s.len + n))).toList, hnc, hnc2, ?_, by simp [Builtin.zeroCells, hzs], ?_⟩
 · split
   · rename_i h0; simp [h0]
   · simp [Builtin.zeroCells, hzs]
 have hw : IntKind.i64.wrap ((n : Nat) : Int) = (n : Int) := wrapi (by omega) (by omega)
 have e0 : ¬ ((n : Int) < 0) := by omega
 have e5 : ¬ ((n : Int) * (i.bytes : Int) > 2 ^ 48) := by
   have : ((n * i.bytes : Nat) : Int) ≤ ((281474976710656 : Nat) : Int) := Int.ofNat_le.2 hnb
   rw [Int.natCast_mul] at this
   have e48 : (2 : Int) ^ 48 = ((281474976710656 : Nat) : Int) := by decide +kernel
   rw [e48]
   omega
 have e1 : ¬ (s.len + n ≤ s.cap) := by omega
 have e2 : ¬ ((s.len + n : Nat) : Int) > IntKind.i64.max := by
   simp [IntKind.max, IntKind.signed, IntKind.bits]; omega
 have e4 : ¬ Builtin.nextslicecap (s.len + n) s.cap * i.bytes > 2 ^ 48 := by
   have : (2 : Nat) ^ 48 = 281474976710656 := by decide +kernel
   omega
 have hchoose' : Sem.run P (choose (.appendCap (s.len + n) s.cap e)) w = .ok nc w.drew := hchoose
 unfold Builtin.append_
 simp only [List.getElem?_toArray, List.getElem?_cons_zero, List.getElem?_cons_succ, h0, h1, Sem.run_bind, run_underlying' hs, run_underlying' hx, Result.andThen, hsz', Sem.run_pure, asInt, asIntOf, hw, e0, if_false, hti, e5, Int.toNat_natCast, e1, e2, false_and, e4, if_true, Bool.not_true, Bool.false_eq_true, hchoose', hask, hf2]
 by_cases hz0 : n * sz = 0
 · simp only [hz0, if_true, Sem.run_pure, zeroValue, hti, hz, Sem.run_bind, Result.andThen, newRow, newObj, Sem.run]
   have hds : w.drew.heap.size = w.heap.size := rfl
   rw [hds]
   congr 1
   show w.drew.alloc _ = w.drew.alloc _
   congr 2
   simp
 · simp only [hz0, if_false, Sem.run_pure, zeroValue, hti, hz, Sem.run_bind, Result.andThen, newRow, newObj, Sem.run]
   have hds : w.drew.heap.size = w.heap.size := rfl
   rw [hds]
   congr 1
   show w.drew.alloc _ = w.drew.alloc _
   congr 2
   simp
theorem run_clear_rows {T o e : TypeId} {i : TypeInfo} {z : Value} {sz n c : Nat} {A : Addr} (hT : P.underlying T = some (.slice e)) (hi : P.info? e = some i) (hz : i.zero = some z) (hzs : z.cells.size = sz) (hn : n ≠ 0)
   (hst : ∀ zs : List Value, zs = (Builtin.zeroCells z.cells n).toList → StoreOk w A zs) :
   ∃ zs : List Value, zs.length = n * sz ∧ Sem.run P (Builtin.clear_ #[T] o #[.slice (some A) n c]) w = .ok (.tuple #[]) (setCells w A 0 zs) := by
 refine ⟨(Builtin.zeroCells z.cells n).toList, by simp [Builtin.zeroCells, hzs], ?_⟩
 have hs := hst _ rfl
 have hst' := run_storeCells (P := P) (A := A) _ 0 w (by simpa using hs.1) hs.2
 cases n with
 | zero => exact absurd rfl hn
 | succ n =>
   simp only [Builtin.clear_, List.getElem?_toArray, List.getElem?_cons_zero, Sem.run_bind, run_underlying' hT, Result.andThen, zeroValue, run_typeInfo' hi, hz, Sem.run_pure, hst']
end
theorem cut0' (a : Option Addr) (z c : Nat) : cutA a z 0 c = a := by
 unfold cutA
 split
 · rfl
 · cases a with
   | none => rfl
   | some A => simp [add_zero']
theorem Blk.srcAt {sz : Nat} {w : World} {b : Nat} {c : Array Value} {T : TypeId} (h : Blk w b c T) {o n cap : Nat} (hn : o + n * sz ≤ c.size) : Src sz w ⟨some ⟨b, o, none⟩, n, cap⟩ ((c.toList.drop o).take (n * sz)) := by
 refine ⟨by simp; omega, (fun h => by cases h), fun a ha => ?_⟩
 cases ha
 have := rdCells_blk h (n * sz) o 0 (by simpa using hn)
 simpa using this
theorem Blk.set0 {w : World} {b o : Nat} {c : Array Value} {T : TypeId} (h : Blk w b c T) (vs : List Value) : Blk (setCells w ⟨b, o, none⟩ 0 vs) b (spl c o vs) T := by
 simpa using Blk.sets vs o 0 h
theorem OwnS.mk' {sz : Nat} {T : TypeId} {w : World} {b n cap : Nat} {c : Array Value} {vs : List Value} (hb : Blk w b c T) (hl : vs.length = n * sz) (hn : n ≤ cap) (hc : cap ≤ maxLen) (hs : c.size = cap * sz) (hv : c.toList.take (n * sz) = vs) : OwnS sz T w ⟨some ⟨b, 0, Option.none⟩, n, cap⟩ vs :=
 ⟨hl, hn, hc, .inr ⟨b, c, rfl, hb, hs, hv⟩⟩
theorem addAdd (A : Addr) (a b : Nat) : (A.add a).add b = A.add (a + b) := by
 unfold Addr.add
 by_cases ha : a = 0
 · subst ha; simp
 · by_cases hb : b = 0
   · subst hb; simp
   · simp [ha, hb, Nat.add_assoc]
theorem rdGet {w : World} {A : Addr} : ∀ {n i : Nat} {vs : List Value} {j : Nat} {v : Value}, rdCells w A i n = some vs → vs[j]? = some v → w.cell? (A.add (i + j)) = some v
 | 0, _, vs, j, v, h, hv => by simp [rdCells] at h; subst h; simp at hv
 | n + 1, i, vs, j, v, h, hv => by
   simp only [rdCells] at h
   cases h1 : w.cell? (A.add i) with
   | none => simp [h1] at h
   | some u =>
     cases h2 : rdCells w A (i + 1) n with
     | none => simp [h1, h2] at h
     | some us =>
       simp only [h1, h2, Option.some.injEq] at h
       subst h
       cases j with
       | zero => simp at hv; subst hv; exact h1
       | succ j =>
         have := rdGet h2 (j := j) (v := v) (by simpa using hv)
         rwa [show i + (j + 1) = i + 1 + j by omega]
theorem rdOf {w : World} {A : Addr} : ∀ (n i : Nat) (vs : List Value), vs.length = n → (∀ j v, vs[j]? = some v → w.cell? (A.add (i + j)) = some v) → rdCells w A i n = some vs
 | 0, i, vs, hl, _ => by
   cases vs with
   | nil => simp [rdCells]
   | cons _ _ => simp at hl
 | n + 1, i, vs, hl, h => by
   cases vs with
   | nil => simp at hl
   | cons v vs =>
     simp only [rdCells]
     rw [show w.cell? (A.add i) = some v from h 0 v rfl, rdOf n (i + 1) vs (by simpa using hl) (fun j x hx => by have := h (j + 1) x (by simpa using hx); rwa [show i + (j + 1) = i + 1 + j by omega] at this)]
theorem rdPart {w : World} {A : Addr} {n k m : Nat} {vs : List Value} (h : rdCells w A 0 n = some vs) (hk : k + m ≤ n) : rdCells w (A.add k) 0 m = some ((vs.drop k).take m) := by
 have hl := rdCells_length h
 refine rdOf m 0 _ (by simp; omega) fun j v hv => ?_
 rw [addAdd, show k + (0 + j) = 0 + (k + j) by omega]
 refine rdGet h ?_
 rw [List.getElem?_take] at hv
 split at hv
 · rwa [List.getElem?_drop] at hv
 · cases hv
theorem mid_wrap {a b : Nat} (h : a + b ≤ 4000000) : IntKind.wrap .i64 (Int.fdiv (IntKind.wrap .u64 (IntKind.wrap .i64 ((a : Int) + (b : Int)))) (2 ^ (min (Int.toNat 1) 64))) = (((a + b) / 2 : Nat) : Int) := by
 rw [wrapi (n := (a : Int) + b) (by omega) (by omega), wr64 (by omega) (by omega)]
 have e : (2 : Int) ^ (min (Int.toNat 1) 64) = 2 := rfl
 rw [e, Int.fdiv_eq_ediv_of_nonneg _ (by omega), wrapi (by omega) (by omega)]
 omega
section
variable {w : World}
theorem MapK.notVar {α : Type} {enc : α → Value} {M : List (α × Value)} {q : Nat} {c : Array Value} {T : TypeId} (h : MapK w q enc M) (h' : Blk w q c T) : False := by
 obtain ⟨L, clk, h, _⟩ := h
 unfold Blk at h'
 rw [h'] at h; cases h
theorem OwnS.notVar {sz : Nat} {T T' : TypeId} {s : Sl} {vs : List Value} {q : Nat} {c : Array Value} (h : OwnS sz T w s vs) (hq : ownB s q) (h' : Blk w q c T') : T = T' := by
 obtain ⟨A, hA, rfl⟩ := hq
 obtain ⟨_, _, _, h4⟩ := h
 rcases h4 with ⟨hn, _⟩ | ⟨b, c', hb, hblk, _⟩
 · rw [hn] at hA; cases hA
 · rw [hb] at hA; cases hA
   exact (Blk.inj hblk h').2
theorem OwnS.notMap {α : Type} {enc : α → Value} {M : List (α × Value)} {sz : Nat} {T : TypeId} {s : Sl} {vs : List Value} {q : Nat} (h : OwnS sz T w s vs) (hq : ownB s q) (h' : MapK w q enc M) : False := by
 obtain ⟨A, hA, rfl⟩ := hq
 obtain ⟨_, _, _, h4⟩ := h
 rcases h4 with ⟨hn, _⟩ | ⟨b, c', hb, hblk, _⟩
 · rw [hn] at hA; cases hA
 · rw [hb] at hA; cases hA
   exact MapK.notVar h' hblk
end
theorem rdCat {w : World} {A : Addr} {n m i : Nat} {xs ys : List Value} (h1 : rdCells w A i n = some xs) (h2 : rdCells w (A.add (i + n)) 0 m = some ys) : rdCells w A i (n + m) = some (xs ++ ys) := by
 have l1 := rdCells_length h1
 have l2 := rdCells_length h2
 refine rdOf (n + m) i _ (by rw [List.length_append, l1, l2]) fun j v hv => ?_
 rw [List.getElem?_append] at hv
 split at hv
 · exact rdGet h1 hv
 · rename_i hj
   have := rdGet h2 hv
   rw [addAdd] at this
   rwa [show i + n + (0 + (j - xs.length)) = i + j by omega] at this
theorem SliceAt.src {P : Program} {w : World} {e : TypeId} {s : Sl} {α : Type} {c : α → List Value} {sz : Nat} (h : SliceAt P w e s) (hsz : P.cellsOf e = sz) (R : α → Prop) (hel : ∀ fuel vs, okT P w fuel e vs → ∃ x : α, vs = c x ∧ R x) :
   ∃ l : List α, Src sz w s (l.map c).flatten ∧ l.length = s.len ∧ ∀ x ∈ l, R x := by
 have hcell := h.cell
 rw [hsz] at hcell
 have key : ∀ a, s.a = some a → ∀ n, n ≤ s.len → ∃ l : List α, rdCells w a 0 (n * sz) = some (l.map c).flatten ∧ l.length = n ∧ ∀ x ∈ l, R x := by
   intro a ha n
   induction n with
   | zero => intro _; exact ⟨[], by simp [rdCells], rfl, fun r hr => by cases hr⟩
   | succ n ih =>
     intro hn
     obtain ⟨l, h1, hl, h2⟩ := ih (by omega)
     obtain ⟨vs, h3, fuel, h4⟩ := hcell a ha n (by have := h.le; omega)
     obtain ⟨r, rfl, h5⟩ := hel fuel vs h4
     refine ⟨l ++ [r], ?_, by simp [hl], fun x hx => ?_⟩
     · rw [Nat.succ_mul, rdCat h1 (by rw [Nat.zero_add]; exact h3)]
       simp
     · rcases List.mem_append.1 hx with hx | hx
       · exact h2 x hx
       · rw [List.mem_singleton.1 hx]; exact h5
 cases hsa : s.a with
 | none =>
   have h0 : s.len = 0 := by have := h.nil hsa; have := h.le; omega
   exact ⟨[], ⟨by simp [h0], fun _ => rfl, fun a ha => (by rw [hsa] at ha; cases ha)⟩, h0.symm, fun r hr => by cases hr⟩
 | some a =>
   obtain ⟨l, h1, hl, h2⟩ := key a hsa s.len (Nat.le_refl _)
   exact ⟨l, ⟨rdCells_length h1, fun e => (by rw [hsa] at e; cases e), fun a' ha' => by rw [hsa] at ha'; cases ha'; exact h1⟩, hl, h2⟩
theorem okT_field {P : Program} {w : World} {T : TypeId} {fuel : Nat} {cs : List Value} {fs : Array Field} (h : okT P w fuel T cs) (hT : P.underlying T = some (.struct fs)) (i : Nat) {t o n : Nat} (hf : (fs[i]?).map (fun f => (f.type, f.offset)) = some (t, o)) (hn : P.cellsOf t = n) : ∃ fuel, okT P w fuel t ((cs.drop o).take n) := by
 obtain ⟨_, hfs⟩ := okT_struct h hT
 cases hg : fs[i]? with
 | none => rw [hg] at hf; cases hf
 | some f =>
   rw [hg] at hf
   simp only [Option.map_some, Option.some.injEq, Prod.mk.injEq] at hf
   obtain ⟨rfl, rfl⟩ := hf
   have := hfs f (Array.mem_of_getElem? hg)
   rwa [hn] at this
def fieldsOf (P : Program) (T : TypeId) : Array Field := match P.underlying T with
 | some (.struct fs) => fs
 | _ => #[]
end Gx
