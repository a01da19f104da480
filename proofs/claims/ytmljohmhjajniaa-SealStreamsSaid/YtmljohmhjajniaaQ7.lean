import Derived.Test.YtmljohmhjajniaaQ6
set_option linter.unusedVariables false
set_option linter.unusedSimpArgs false
namespace Go.Proofs.Ytmljohmhjajniaa.Si
open Go.RowKit Go.Lg Go.Proofs.Ytmljohmhjajniaa
attribute [local irreducible] JC JL JD RN RT Eff Yld YldIf Tr
/-- One row, in a slice of rows of its own. -/
theorem RowsAt.one {W : World} {r : List Ent} {b tot : Nat} {T : TypeId} {A : Option Addr} {c : Nat} {bs : List UInt8} (hb : (b, isR T tot [.slice A bs.length c]) ∈ r) (hs : Src W r A (bs.map bv)) (hA : A = none → bs.length = 0 ∧ c = 0) : RowsAt W r (some ⟨b, 0, none⟩) [bs] := by
  refine ⟨_, rfl, Src.whole hb, fun i bs' h => ?_⟩
  cases i with
  | zero => cases h; exact ⟨A, c, rfl, hs, hA⟩
  | succ i => cases h
theorem RowsAt.none (W : World) (r : List Ent) (A : Option Addr) : RowsAt W r A [] := ⟨[], rfl, Src.nil .., fun i bs h => by simp at h⟩
end Go.Proofs.Ytmljohmhjajniaa.Si
