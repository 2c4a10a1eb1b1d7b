/- The arguments and the listed variables of the laws on addresses. -/
import Derived.Test.YtcjpgabpihkcjaaGreatDoorAddrG
import Derived.Test.YtcjpgabpihkcjaaGreatDoorGv
import Derived.Test.YtcjpgabpihkcjaaGreatDoorRows
namespace Go.Proofs.YtcjpgabpihkcjaaGreatDoor
open Go Gx

theorem Ad.of_okRs {cs : List Value} (h : okRs (.bool :: bytesL 16) cs) : ∃ a : Ad, cs = a.c := by
  obtain ⟨_, us, rfl, ⟨b, rfl⟩, h2⟩ := h
  obtain ⟨l, hl, rfl⟩ := okRs_bytes h2
  exact ⟨⟨b, l, hl⟩, rfl⟩
theorem Pf.of_okRs {cs : List Value} (h : okRs ((.bool :: bytesL 16) ++ [.int .i64]) cs) : ∃ p : Pf, cs = p.c ∧ -9223372036854775808 ≤ p.bits ∧ p.bits ≤ 9223372036854775807 := by
  obtain ⟨us, ts, rfl, h1, h2⟩ := okRs_app h
  obtain ⟨a, rfl⟩ := Ad.of_okRs h1
  obtain ⟨_, _, rfl, ⟨n, rfl, h3, h4⟩, rfl⟩ := h2
  exact ⟨⟨a, n⟩, rfl, i64_range h3 h4⟩
set_option maxRecDepth 100000 in
theorem Ad.of {w : World} {v : Value} (h : OkV Tryz.prog w Ty.api_Addr v) : ∃ a : Ad, v = .agg a.c.toArray := by
  obtain ⟨cs, rfl, h2⟩ := okV_flat h (d := (Tryz.prog.underlying Ty.api_Addr).get (by kernel_rfl)) (ls := .bool :: bytesL 16) (Option.some_get _).symm (by kernel_rfl) (by kernel_rfl) (by kernel_rfl)
  obtain ⟨a, rfl⟩ := Ad.of_okRs h2
  exact ⟨a, rfl⟩
set_option maxRecDepth 100000 in
theorem Pf.of {w : World} {v : Value} (h : OkV Tryz.prog w Ty.api_Prefix v) : ∃ p : Pf, v = .agg p.c.toArray ∧ -9223372036854775808 ≤ p.bits ∧ p.bits ≤ 9223372036854775807 := by
  obtain ⟨cs, rfl, h2⟩ := okV_flat h (d := (Tryz.prog.underlying Ty.api_Prefix).get (by kernel_rfl)) (ls := (.bool :: bytesL 16) ++ [.int .i64]) (Option.some_get _).symm (by kernel_rfl) (by kernel_rfl) (by kernel_rfl)
  obtain ⟨p, rfl, h3⟩ := Pf.of_okRs h2
  exact ⟨p, rfl, h3⟩

/-! ### The tables -/
def powZ : List Int := (List.range 20).map fun i => ((10 ^ i : Nat) : Int)
def bruZ : List Int := [0, 1, 56, 2, 57, 49, 28, 3, 61, 58, 42, 50, 38, 29, 17, 4, 62, 47, 59, 36, 45, 43, 51, 22, 53, 39, 33, 30, 24, 18, 12, 5, 63, 55, 48, 27, 60, 41, 37, 16, 46, 35, 44, 21, 52, 32, 23, 11, 54, 26, 40, 15, 34, 20, 31, 10, 25, 14, 19, 9, 13, 8, 7, 6]
theorem gType {g : Nat} {T : TypeId} (h : ((Tryz.prog.globals[g]?).map (·.type) == some T) = true) : (Tryz.prog.globals[g]?).map (·.type) = some T := eq_of_beq h

theorem tab2_of {w : World} {l : List (String × DataW Unit)} (h : laidMet Tryz.prog l w) (h1 : l[1]? = some ("math/bits.deBruijn64tab", Rows.laid_math_bits_deBruijn64tab)) (h2 : l[2]? = some ("internal/strconv.uint64pow10", Rows.laid_internal_strconv_uint64pow10)) : Tab2 w := by
  have b := laid_ints h h1 (g := G.math_bits_deBruijn64tab) (k := .u8) (zs := bruZ) (t := ((Tryz.prog.globals[G.math_bits_deBruijn64tab]?).map (·.type)).get (by kernel_rfl)) (e := Ty.uint8) (N := 64) (by kernel_rfl) (Option.some_get _).symm (by kernel_rfl) (by kernel_rfl) (by kernel_rfl) (by kernel_rfl)
  have p := laid_ints h h2 (g := G.internal_strconv_uint64pow10) (k := .u64) (zs := powZ) (t := ((Tryz.prog.globals[G.internal_strconv_uint64pow10]?).map (·.type)).get (by kernel_rfl)) (e := Ty.uint64) (N := 20) (by kernel_rfl) (Option.some_get _).symm (by kernel_rfl) (by kernel_rfl) (by kernel_rfl) (by kernel_rfl)
  refine ⟨fun i hi => ?_, ?_⟩
  · rw [p i hi]
    congr 2
    simp [powZ, List.getD, hi]
  · exact b 15 (by decide)
theorem errs_of {w : World} {l : List (String × DataW Unit)} (h : laidMet Tryz.prog l w) (h1 : l[4]? = some ("strconv.ErrRange", Rows.laid_strconv_ErrRange)) (h2 : l[5]? = some ("strconv.ErrSyntax", Rows.laid_strconv_ErrSyntax)) : Errs w := by
  have hI : ∃ ms, Tryz.prog.underlying Ty.error = some (.interface ms) := by
    have h : isIfaceT (Tryz.prog.underlying Ty.error) = true := by kernel_rfl
    generalize Tryz.prog.underlying Ty.error = o at h
    cases o with
    | none => cases h
    | some d => cases d <;> first | exact ⟨_, rfl⟩ | cases h
  obtain ⟨ms, hu⟩ := hI
  exact ⟨laid_iface h h2 (g := G.strconv_ErrSyntax) (t := Ty.error) (by kernel_rfl) (by kernel_rfl) hu, laid_iface h h1 (g := G.strconv_ErrRange) (t := Ty.error) (by kernel_rfl) (by kernel_rfl) hu⟩
theorem tabs_of {w : World} {l : List (String × DataW Unit)} (h : laidMetH Tryz.prog l w) (hp : (l.all fun x => x.2.handleName?.isNone) = true) (h1 : l[1]? = some ("math/bits.deBruijn64tab", Rows.laid_math_bits_deBruijn64tab)) (h2 : l[2]? = some ("internal/strconv.uint64pow10", Rows.laid_internal_strconv_uint64pow10))
    (h3 : l[4]? = some ("strconv.ErrRange", Rows.laid_strconv_ErrRange)) (h4 : l[5]? = some ("strconv.ErrSyntax", Rows.laid_strconv_ErrSyntax)) : Tabs w := by
  rw [MakeChecks.laidMetH_plain _ _ _ hp] at h
  exact ⟨tab2_of h h1 h2, errs_of h h3 h4⟩

end Go.Proofs.YtcjpgabpihkcjaaGreatDoor
