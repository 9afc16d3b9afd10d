/- From a row's reading of a slice of numbers to a list. No conditions. -/
import Derived.Test.YtlboogackecjlaaGenX15
import Derived.Test.YtlboogackecjlaaGenX9
set_option linter.unusedVariables false
set_option linter.unusedSimpArgs false
namespace Go.Proofs.Ytlboogackecjlaa.E
open Go Go.RowKit

section
variable {H : Type} {enc : TypeId × Value → H} {w : World} {base : Nat} {spare : Nat → Bool} {held : Bool}
theorem u_ints : Try.prog.underlying 29 = some (.slice 3) := by kernel_rfl
theorem u_int3 : Try.prog.underlying 3 = some (.int .i64) := by kernel_rfl
theorem c_int3 : Try.prog.cellsOf 3 = 1 := by kernel_rfl
theorem open_intsL (fuel : Nat) (v : Value) (x : DataW H × List MemPlace) (h : DataW.trod enc Try.prog w base spare held fuel 29 [v] = some x) : ∃ l : List Int, RepD w (rgAll w) v (.sl 0 1 (ints l)) := by
  rcases DataW.trod_slice u_ints h with ⟨hb, _⟩ | ⟨a, len, cap, elems, rest, n, hn, hb, _, _, hlc, _, hel, hall, _⟩
  · cases hb
    exact ⟨[], .sl0 none 0 1 0⟩
  · cases hb
    rw [c_int3] at hall
    obtain ⟨l, _, hr⟩ := stand_slice (w := w) (base := base) 1 (by decide) (fun s : Int => [DV.int .i64 s]) (fun _ => rfl) (a := a) hlc (fun i hi => by
      have := hall i hi
      rw [List.getElem?_eq_getElem (by omega)] at this
      obtain ⟨cs', h2, h3⟩ := Option.bind_eq_some_iff.1 this
      obtain ⟨s, hs, _, _⟩ := DataW.trod_int u_int3 h3
      subst hs
      exact ⟨s, _, h2, rfl, fun i v y hv hy => by
        match i with
        | 0 => simp at hv hy; subst hv; subst hy; exact .int _ _
        | i + 1 => simp at hv⟩)
    exact ⟨l, hr⟩
end
end Go.Proofs.Ytlboogackecjlaa.E
