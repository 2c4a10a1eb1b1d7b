/- Numerals read, the public functions: ParseUint, Atoi. -/
import Derived.Test.YtcjpgabpihkcjaaGreatDoorLibF
namespace Go.Proofs.YtcjpgabpihkcjaaGreatDoor
open Go Gx

/-- A variable that holds an error or none. -/
def ErrV (w : World) (g : Nat) : Prop := ∃ v, w.cell? ⟨g, 0, none⟩ = some v ∧ (v = .nilIface ∨ ∃ t x, v = .iface t x)
theorem ErrV.ext {w w' : World} {g : Nat} (h : ErrV w g) (hx : Ext w w') : ErrV w' g := by
  obtain ⟨v, h1, h2⟩ := h
  exact ⟨v, cell_ext hx h1, h2⟩
structure Errs (w : World) : Prop where
  syn : ErrV w G.strconv_ErrSyntax
  rng : ErrV w G.strconv_ErrRange
theorem Errs.ext {w w' : World} (h : Errs w) (hx : Ext w w') : Errs w' := ⟨h.syn.ext hx, h.rng.ext hx⟩

theorem eqErr {op : BinOp} {xo yo : Operand} (hop : op = .eql ∨ op = .neq) (c k : Int) : OpqEq Tryz.prog op Ty.error xo yo (.iface Ty.strconv_Error (.int .i64 c)) (.iface Ty.strconv_Error (.int .i64 k)) (if op = .eql then c == k else !(c == k)) := by
  intro w
  obtain ⟨ms, hu⟩ : ∃ ms, Tryz.prog.underlying Ty.error = some (.interface ms) := by
    have h : isIfaceT (Tryz.prog.underlying Ty.error) = true := by kernel_rfl
    generalize Tryz.prog.underlying Ty.error = o at h
    cases o with
    | none => cases h
    | some d => cases d <;> first | exact ⟨_, rfl⟩ | cases h
  have he : Tryz.prog.underlying Ty.strconv_Error = some (.int .i64) := by kernel_rfl
  obtain ⟨i, hi, hcmp⟩ : ∃ i, Tryz.prog.info? Ty.strconv_Error = some i ∧ i.comparable = true := by
    refine ⟨(Tryz.prog.info? Ty.strconv_Error).get (by kernel_rfl), (Option.some_get _).symm, by kernel_rfl⟩
  have e1 : ∀ (d : Nat) (w : World), (Op.equalIn (d + 1 + 1) Ty.error (.iface Ty.strconv_Error (.int .i64 c)) (.iface Ty.strconv_Error (.int .i64 k))).run Tryz.prog w = .ok (c == k) w := by
    intro d w
    rw [Op.equalIn]
    simp [run_underlying' hu, run_typeInfo' hi, hcmp, run_equalIn_int w d Ty.strconv_Error .i64 .i64 c k he]
  have := e1 9998 w
  have e2 : (Op.equal Ty.error (.iface Ty.strconv_Error (.int .i64 c)) (.iface Ty.strconv_Error (.int .i64 k))).run Tryz.prog w = .ok (c == k) w := this
  rcases hop with rfl | rfl <;> simp [eqGuard, binOp, e2]

theorem mkErr {fn : ByteArray} {l : List UInt8} {w4 : World} {v3 : Value} (hv : v3 = .nilIface ∨ ∃ t x, v3 = .iface t x) :
    ∃ c7 : Array Value, Sem.run Tryz.prog (Instr.build Ty.strconv_NumError #[(0, .string fn), (1, .string (S l)), (2, v3)]) w4 = .ok (.agg c7) w4 := by
  rcases hv with rfl | ⟨t, x, rfl⟩
  · exact ⟨#[.string fn, .string (S l), .nilIface], by kernel_rfl⟩
  · exact ⟨#[.string fn, .string (S l), .iface t x], by kernel_rfl⟩

theorem syntaxError (fn : ByteArray) (l : List UInt8) (hl : l.length ≤ 1000000000000) (w : World) (he : Errs w) : Ret Tryz.prog F.strconv_syntaxError #[.string fn, .string (S l)] w (fun v w' => (∃ A, v = .pointer (some A)) ∧ Ext w w') := by
  refine W.strconv_syntaxError_ok fn (S l) w _ ?_
  unfold W.strconv_syntaxError Nx
  obtain ⟨v3, h3, hv3⟩ := he.syn
  refine ⟨fun _ => False, id, v3, h3, (Clone_str l hl w.drew).use ?_⟩
  rintro _ w4 ⟨rfl, hx⟩
  obtain ⟨c7, h7⟩ := mkErr (fn := fn) (l := l) (w4 := w4) hv3
  exact ⟨_, rfl, hx, c7, h7, ⟨_, rfl⟩, Chg.alloc (Ext.trans (Chg.drew (.refl _ _)) hx) _⟩
theorem rangeError (fn : ByteArray) (l : List UInt8) (hl : l.length ≤ 1000000000000) (w : World) (he : Errs w) : Ret Tryz.prog F.strconv_rangeError #[.string fn, .string (S l)] w (fun v w' => (∃ A, v = .pointer (some A)) ∧ Ext w w') := by
  refine W.strconv_rangeError_ok fn (S l) w _ ?_
  unfold W.strconv_rangeError Nx
  obtain ⟨v3, h3, hv3⟩ := he.rng
  refine ⟨fun _ => False, id, v3, h3, (Clone_str l hl w.drew).use ?_⟩
  rintro _ w4 ⟨rfl, hx⟩
  obtain ⟨c7, h7⟩ := mkErr (fn := fn) (l := l) (w4 := w4) hv3
  exact ⟨_, rfl, hx, c7, h7, ⟨_, rfl⟩, Chg.alloc (Ext.trans (Chg.drew (.refl _ _)) hx) _⟩

theorem toError (fn : ByteArray) (l : List UInt8) (hl : l.length ≤ 1000000000000) (b k c : Int) (hc : c = 1 ∨ c = 2) (w : World) (he : Errs w) :
    Ret Tryz.prog F.strconv_toError #[.string fn, .string (S l), .int .i64 b, .int .i64 k, .iface Ty.strconv_Error (.int .i64 c)] w (fun v w' => (∃ t x, v = .iface t x) ∧ Ext w w') := by
  refine W.strconv_toError_ok fn (S l) b k _ w _ ?_
  unfold W.strconv_toError
  refine ⟨_, eqErr (.inl rfl) c 2, fun h => ?_, fun h => ?_⟩
  · refine (syntaxError fn l hl w he).use ?_
    rintro _ w1 ⟨⟨A, rfl⟩, hx⟩
    exact ⟨_, rfl, ⟨_, _, rfl⟩, hx⟩
  · refine ⟨_, eqErr (.inl rfl) c 1, fun h => ?_, fun h2 => ?_⟩
    · refine (rangeError fn l hl w he).use ?_
      rintro _ w1 ⟨⟨A, rfl⟩, hx⟩
      exact ⟨_, rfl, ⟨_, _, rfl⟩, hx⟩
    · exfalso
      simp at h h2
      omega

/-- What the public functions tell: the number, or some number and an error. -/
def PN (k : IntKind) (r : Option Int) (v : Value) : Prop := match r with
  | some n => v = .tuple #[.int k n, .nilIface]
  | none => ∃ (m : Int) (t : TypeId) (x : Value), v = .tuple #[.int k m, .iface t x]

theorem ParseUint (l : List UInt8) (b k : Nat) (hl : l.length ≤ 1000000000000) (hb : b = 10 ∨ b = 16) (hk : 1 ≤ k ∧ k ≤ 64) (w : World) (he : Errs w) :
    Ret Tryz.prog F.strconv_ParseUint #[.string (S l), .int .i64 b, .int .i64 k] w (fun v w' => PN .u64 ((parseB b (2 ^ k - 1) l).map (fun n => ((n : Nat) : Int))) v ∧ Ext w w') := by
  refine W.strconv_ParseUint_ok (S l) b k w _ ?_
  unfold W.strconv_ParseUint
  refine (ParseUint_in l b k hl hb k (.inl rfl) hk w).use ?_
  rintro v w1 ⟨hv, hx⟩
  cases hp : parseB b (2 ^ k - 1) l with
  | some n =>
    rw [hp] at hv
    simp only [PU] at hv
    subst hv
    exact ⟨_, _, rfl, true, rfl, fun h => by simp at h, fun _ => ⟨rfl, hx⟩⟩
  | none =>
    rw [hp] at hv
    obtain ⟨m, c, rfl, hc⟩ := hv
    refine ⟨_, _, rfl, false, rfl, fun _ => ?_, fun h => by simp at h⟩
    refine (toError _ l hl b k c hc w1 (he.ext hx)).use ?_
    rintro _ w2 ⟨⟨t, x, rfl⟩, hx2⟩
    exact ⟨_, rfl, ⟨_, _, _, rfl⟩, hx.trans hx2⟩

/-! ### Atoi -/
def aFold : Int → List UInt8 → Option Int
  | n, [] => some n
  | n, c :: cs => if IntKind.wrap .u8 (((c.toNat : Nat) : Int) - 48) > 9 then none else
      aFold (IntKind.wrap .i64 ((IntKind.wrap .i64 (n * 10)) + (IntKind.wrap .i64 (IntKind.wrap .u8 (((c.toNat : Nat) : Int) - 48))))) cs
theorem aFold_append : ∀ (a b : List UInt8) (n : Int), aFold n (a ++ b) = (aFold n a).bind (fun m => aFold m b)
  | [], _, _ => rfl
  | c :: a, b, n => by
    simp only [List.cons_append, aFold]
    split
    · rfl
    · exact aFold_append a b _
theorem aFold_num (n : Nat) (hn : n < 1000000000000000000) : aFold 0 (numB 10 n) = some (n : Int) := by
  induction n using Nat.strongRecOn with
  | ind n ih =>
    have hd : ∀ d : Nat, d < 10 → IntKind.wrap .u8 ((((dig d).toNat : Nat) : Int) - 48) = d := by
      intro d hd
      rw [dig_val (by omega), if_pos hd, wr8 (by omega) (by omega)]; omega
    by_cases h : n < 10
    · rw [numB_lt h]
      simp only [aFold, hd n h]
      rw [if_neg (by omega), wrapi (n := 0 * 10) (by omega) (by omega), wrapi (n := (n : Int)) (by omega) (by omega), wrapi (n := 0 * 10 + (n : Int)) (by omega) (by omega)]
      simp
    · rw [numB_ge (by omega) (by omega), aFold_append, ih (n / 10) (by omega) (by omega)]
      simp only [Option.bind_some, aFold, hd (n % 10) (by omega)]
      rw [if_neg (by omega), wrapi (n := ((n / 10 : Nat) : Int) * 10) (by omega) (by omega), wrapi (n := ((n % 10 : Nat) : Int)) (by omega) (by omega), wrapi (n := ((n / 10 : Nat) : Int) * 10 + ((n % 10 : Nat) : Int)) (by omega) (by omega)]
      congr 1
      omega
theorem numB_digit (n : Nat) : ∀ c ∈ numB 10 n, 48 ≤ c.toNat ∧ c.toNat ≤ 57 := by
  induction n using Nat.strongRecOn with
  | ind n ih =>
    have hd : ∀ d : Nat, d < 10 → 48 ≤ (dig d).toNat ∧ (dig d).toNat ≤ 57 := by
      intro d hd
      have := dig_val (d := d) (by omega)
      rw [if_pos hd] at this
      omega
    by_cases h : n < 10
    · rw [numB_lt h]
      intro c hc
      rw [List.mem_singleton.1 hc]; exact hd n h
    · rw [numB_ge (by omega) (by omega)]
      intro c hc
      rcases List.mem_append.1 hc with hc | hc
      · exact ih (n / 10) (by omega) c hc
      · rw [List.mem_singleton.1 hc]; exact hd _ (by omega)
theorem numB_len (b k : Nat) (hb : 2 ≤ b) : ∀ n, n < b ^ (k + 1) → (numB b n).length ≤ k + 1 := by
  induction k with
  | zero => intro n h; rw [numB_lt (by simpa using h)]; simp
  | succ k ih =>
    intro n h
    by_cases h2 : n < b
    · rw [numB_lt h2]; simp
    · rw [numB_ge hb (by omega)]
      have := ih (n / b) (by rw [Nat.div_lt_iff_lt_mul (by omega), ← Nat.pow_succ]; exact h)
      simp; omega

/-- What Atoi tells of any text: some number, and an error or none; of a numeral its number. -/
def AT' (l : List UInt8) (v : Value) : Prop := ∃ (m : Int) (e : Value), v = .tuple #[.int .i64 m, e] ∧ (e = .nilIface ∨ ∃ c : Int, e = .iface Ty.strconv_Error (.int .i64 c) ∧ (c = 1 ∨ c = 2)) ∧
  ∀ n : Nat, n < 1000000000000000000 → l = numB 10 n → m = n ∧ e = .nilIface

theorem ParseInt10 (l : List UInt8) (hl : l.length ≤ 1000000000000) (w : World) : Ret Tryz.prog F.internal_strconv_ParseInt #[.string (S l), .int .i64 10, .int .i64 0] w
    (fun v w' => (∃ (m : Int) (e : Value), v = .tuple #[.int .i64 m, e] ∧ (e = .nilIface ∨ ∃ c : Int, e = .iface Ty.strconv_Error (.int .i64 c) ∧ (c = 1 ∨ c = 2))) ∧ Ext w w') := by
  refine W.internal_strconv_ParseInt_ok (S l) 10 0 w _ ?_
  unfold W.internal_strconv_ParseInt
  rw [S_toList, show ByteArray.toList (ByteArray.mk #[]) = [] from ByteArray.toList_mk []]
  refine ⟨fun _ => ⟨⟨_, _, rfl, .inr ⟨_, rfl, .inr rfl⟩⟩, .refl _ _⟩, fun h => ?_⟩
  have h : l ≠ [] := by simpa using h
  have hpos : 0 < l.length := List.length_pos_iff.2 h
  have hex : (S l).extract (Int.toNat 1) (S l).size = S (l.drop 1) := by
    rw [S_extract, S_size]
    congr 1
    exact List.take_of_length_le (by simp)
  rw [hex, S_size]
  refine Jn2 (fun s b w' => w = w' ∧ ∃ m : List UInt8, s = S m ∧ m.length ≤ l.length) (fun q hq => ⟨by decide, l[0], by rw [S_byteAt]; simp [hpos], fun _ => ⟨⟨by decide, by omega⟩, hq _ _ _ ⟨rfl, _, rfl, by simp⟩⟩, fun _ => ⟨fun _ => ⟨⟨by decide, by omega⟩, hq _ _ _ ⟨rfl, _, rfl, by simp⟩⟩, fun _ => hq _ _ _ ⟨rfl, l, rfl, Nat.le_refl _⟩⟩⟩) ?_
  rintro _ neg _ ⟨rfl, m, rfl, hm⟩
  refine (ParseUint_in m 10 64 (by omega) (.inl rfl) 0 (.inr ⟨rfl, rfl⟩) (by decide) w).use ?_
  rintro v w1 ⟨hv, hx⟩
  have hv' : ∃ (n : Int) (e : Value), v = .tuple #[.int .u64 n, e] ∧ (e = .nilIface ∨ ∃ c : Int, e = .iface Ty.strconv_Error (.int .i64 c) ∧ (c = 1 ∨ c = 2)) := by
    unfold PU at hv
    split at hv
    · exact ⟨_, _, hv, .inl rfl⟩
    · obtain ⟨n, c, h1, h2⟩ := hv
      exact ⟨n, _, h1, .inr ⟨c, rfl, h2⟩⟩
  obtain ⟨n, e, rfl, he⟩ := hv'
  obtain ⟨bn, hbn, hbe⟩ : ∃ bn : Bool, ifaceNil e = some bn ∧ (bn = false → ∃ c : Int, e = .iface Ty.strconv_Error (.int .i64 c) ∧ (c = 1 ∨ c = 2)) := by
    rcases he with rfl | ⟨c, rfl, hc⟩
    · exact ⟨true, rfl, fun h => by cases h⟩
    · exact ⟨false, rfl, fun _ => ⟨c, rfl, hc⟩⟩
  refine ⟨n, e, rfl, bn, hbn, Jn1 (fun b w' => w1 = w') (fun q hq => ⟨fun h => ?_, fun _ => hq _ _ rfl⟩) ?_⟩
  · obtain ⟨c, rfl, hc⟩ := hbe (by simpa using h)
    exact ⟨_, eqErr (.inr rfl) c 1, hq _ _ rfl⟩
  rintro b13 _ rfl
  refine ⟨fun _ => ⟨⟨_, _, rfl, he⟩, hx⟩, fun _ => Jn1 (fun k w' => w1 = w') (fun q hq => ⟨fun _ => hq _ _ rfl, fun _ => hq _ _ rfl⟩) ?_⟩
  rintro k _ rfl
  refine ⟨?_, fun _ => ⟨⟨_, _, rfl, .inr ⟨_, rfl, .inl rfl⟩⟩, hx⟩, fun _ => ⟨fun _ => ⟨⟨_, _, rfl, .inr ⟨_, rfl, .inl rfl⟩⟩, hx⟩, fun _ => Jn1 (fun k w' => w1 = w') (fun q hq => ⟨fun _ => hq _ _ rfl, fun _ => hq _ _ rfl⟩) ?_⟩⟩
  · rw [wr64m]; omega
  · rintro _ _ rfl
    exact ⟨⟨_, _, rfl, .inl rfl⟩, hx⟩

theorem Atoi_in (l : List UInt8) (hl : l.length ≤ 1000000000000) (w : World) : Ret Tryz.prog F.internal_strconv_Atoi #[.string (S l)] w (fun v w' => AT' l v ∧ Ext w w') := by
  refine W.internal_strconv_Atoi_ok (S l) w _ ?_
  unfold W.internal_strconv_Atoi
  rw [S_size]
  refine ⟨fun h => ?_, fun h => ?_⟩
  · have hlen : 0 < l.length ∧ l.length < 19 := by
      simp at h; omega
    have hex : (S l).extract (Int.toNat 1) l.length = S (l.drop 1) := by
      rw [S_extract]
      congr 1
      exact List.take_of_length_le (by simp)
    rw [hex]
    have h0 : byteAt (S l) (Int.toNat 0) = some l[0] := by rw [S_byteAt]; simp [hlen.1]
    have hnum : ∀ n : Nat, l = numB 10 n → ¬ ((l[0]).toNat = 45 ∨ (l[0]).toNat = 43) := by
      intro n hn h2
      have := numB_digit n l[0] (by rw [← hn]; exact List.getElem_mem _)
      omega
    refine Jn1 (fun s w' => w = w' ∧ ∃ m : List UInt8, s = S m ∧ m.length ≤ l.length ∧ ∀ n : Nat, l = numB 10 n → m = l) (fun q hq => ⟨by decide, l[0], h0, Jn1 (fun b w' => w = w' ∧ (b = true → (l[0]).toNat = 45 ∨ (l[0]).toNat = 43)) (fun q2 hq2 => ⟨fun h => hq2 _ _ ⟨rfl, fun _ => by have := eq_of_beq h; omega⟩, fun _ => ⟨by decide, l[0], h0, hq2 _ _ ⟨rfl, fun h => by have := eq_of_beq h; omega⟩⟩⟩) ?_⟩) ?_
    · rintro b _ ⟨rfl, hb⟩
      refine ⟨fun h => ⟨⟨by decide, by omega⟩, fun _ => ⟨⟨0, _, rfl, .inr ⟨_, rfl, .inr rfl⟩, fun n _ hn => (hnum n hn (hb h)).elim⟩, .refl _ _⟩, fun _ => hq _ _ ⟨rfl, _, rfl, by simp, fun n hn => (hnum n hn (hb h)).elim⟩⟩, fun _ => hq _ _ ⟨rfl, l, rfl, Nat.le_refl _, fun _ _ => rfl⟩⟩
    rintro _ _ ⟨rfl, m, rfl, hm, hmn⟩
    obtain ⟨s, w2, hrun, hsl, hsrc, hx⟩ := conv_strB (src := Ty.string) (dst := Ty.Sl_uint8) (w := w) m (by kernel_rfl) (by kernel_rfl)
    refine ⟨s, w2, hrun, fun n i w' => w2 = w' ∧ ∃ j : Nat, i = j ∧ j ≤ m.length ∧ aFold 0 m = aFold n (m.drop j), fun _ i _ => (m.length - i).toNat, ⟨rfl, 0, rfl, Nat.zero_le _, rfl⟩, ?_⟩
    rintro n _ _ ⟨rfl, j, rfl, hj, hF⟩
    refine ⟨fun hlt => ?_, fun hge => ?_⟩
    · have hlt : j < m.length := by have := of_decide_eq_true hlt; omega
      obtain ⟨A, hA, hb1, hcell⟩ := hsrc.at (u8s_get hlt)
      rw [List.drop_eq_getElem_cons hlt] at hF
      simp only [aFold] at hF
      refine ⟨A, hA, hb1, _, hcell, fun h => ⟨⟨0, _, rfl, .inr ⟨_, rfl, .inr rfl⟩, fun k hk hn => ?_⟩, hx⟩, fun h => ?_⟩
      · exfalso
        rw [if_pos (of_decide_eq_true h), hmn k hn, hn, aFold_num k hk] at hF
        cases hF
      · rw [if_neg (of_decide_eq_false h)] at hF
        refine ⟨⟨rfl, j + 1, by rw [wrapi (by omega) (by omega)]; omega, by omega, hF⟩, ?_⟩
        rw [wrapi (n := (j : Int) + 1) (by omega) (by omega)]
        show ((m.length : Int) - ((j : Int) + 1)).toNat < ((m.length : Int) - (j : Int)).toNat
        omega
    · have hge : j = m.length := by have := of_decide_eq_false hge; omega
      subst hge
      rw [List.drop_length] at hF
      simp only [aFold] at hF
      refine Jn1 (fun k w' => w2 = w' ∧ ∀ z : Nat, z < 1000000000000000000 → l = numB 10 z → k = z) (fun q hq => ⟨by decide, l[0], h0, fun h => hq _ _ ⟨rfl, fun z _ hz => (hnum z hz (.inl (by have := eq_of_beq h; omega))).elim⟩, fun _ => hq _ _ ⟨rfl, fun z hz hl => ?_⟩⟩) ?_
      · rw [hmn z hl, hl, aFold_num z hz] at hF
        exact (Option.some.inj hF).symm
      · rintro k _ ⟨rfl, hk⟩
        exact ⟨⟨k, _, rfl, .inl rfl, fun z hz hl => ⟨hk z hz hl, rfl⟩⟩, hx⟩
  · refine (ParseInt10 l hl w).use ?_
    rintro _ w1 ⟨⟨m, e, rfl, he⟩, hx⟩
    refine ⟨m, e, rfl, ⟨m, e, rfl, he, fun n hn hln => ?_⟩, hx⟩
    exfalso
    have h1 := numB_length_pos 10 n
    have h2 := numB_len 10 17 (by omega) n (by simpa using hn)
    rw [hln] at h
    simp at h
    omega

theorem Atoi (l : List UInt8) (hl : l.length ≤ 1000000000000) (w : World) (he : Errs w) : Ret Tryz.prog F.strconv_Atoi #[.string (S l)] w
    (fun v w' => (∃ (m : Int) (e : Value), v = .tuple #[.int .i64 m, e] ∧ (e = .nilIface ∨ ∃ t x, e = .iface t x) ∧ ∀ n : Nat, n < 1000000000000000000 → l = numB 10 n → m = n ∧ e = .nilIface) ∧ Ext w w') := by
  refine W.strconv_Atoi_ok (S l) w _ ?_
  unfold W.strconv_Atoi
  refine (Atoi_in l hl w).use ?_
  rintro _ w1 ⟨⟨m, e, rfl, h1, h2⟩, hx⟩
  refine ⟨m, e, rfl, ?_⟩
  rcases h1 with rfl | ⟨c, rfl, hc⟩
  · exact ⟨true, rfl, fun h => by simp at h, fun _ => ⟨⟨m, _, rfl, .inl rfl, h2⟩, hx⟩⟩
  · refine ⟨false, rfl, fun _ => ?_, fun h => by simp at h⟩
    refine (toError _ l hl 0 0 c hc w1 (he.ext hx)).use ?_
    rintro _ w2 ⟨⟨t, x, rfl⟩, hx2⟩
    refine ⟨_, rfl, ⟨m, _, rfl, .inr ⟨_, _, rfl⟩, fun n hn hln => ?_⟩, hx.trans hx2⟩
    have := (h2 n hn hln).2
    cases this

end Go.Proofs.YtcjpgabpihkcjaaGreatDoor
