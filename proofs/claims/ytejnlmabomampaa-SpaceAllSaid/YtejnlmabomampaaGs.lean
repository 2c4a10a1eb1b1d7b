/- Bytes and strings. -/
import Derived.Test.YtejnlmabomampaaGa
import Derived.Laws.BytesString
namespace Gx
open Go Go.RowKit

/-- Bytes as a string. -/
def bstr (ns : List Int) : ByteArray := ns.foldl (fun r n => r.push (UInt8.ofNat n.toNat)) ByteArray.empty

theorem run_conv_bytes {P : Program} {w : World} {src dst e : TypeId} {s : Sl} {ns : List Int} (hs : P.underlying src = some (.slice e)) (he : P.underlying e = some (.int .u8)) (hd : P.underlying dst = some .string)
    (h : Src 1 w s (ns.map (.int .u8))) : Sem.run P (convert src dst (.slice s.a s.len s.cap)) w = .ok (.string (bstr ns)) w := by
  rw [run_convert_bytes_string w src dst e s.a s.len s.cap hs he hd]
  cases ha : s.a with
  | none =>
    have := h.nil ha
    have hn : ns = [] := by simpa using this
    subst hn
    rfl
  | some A =>
    have hr := h.rd A ha
    rw [Nat.mul_one] at hr
    exact run_bytesToString w A s.len s.cap ns (by
      unfold loadCells
      rw [run_loadCellsFrom _ _ _ _ hr]
      simp)

theorem zrow_of {P : Program} {e : TypeId} {v : Value} (hz : ((P.info? e).bind (·.zero)).map (·.cells) = some #[v]) (hc : P.cellsOf e = 1) (n : Nat) : zrow P e n = (List.replicate n v).toArray := by
  unfold zrow
  rw [hc]
  cases hi : (P.info? e).bind (·.zero) with
  | none => rw [hi] at hz; cases hz
  | some z =>
    rw [hi] at hz
    simp only [Option.map_some, Option.some.injEq] at hz
    simp only [Option.getD_some, hz, Nat.mul_one]
    apply Array.ext
    · simp
    · intro i h1 h2
      have hn : n ≠ 0 := by
        intro h; subst h; simp at h2
      simp [hn, Nat.mod_one]

end Gx
