import Derived.Test.YtplblpakbkgfeaaU
import Derived.OpenShut
set_option linter.unusedVariables false
set_option linter.unusedSimpArgs false
namespace Go.Proofs.Ytplblpakbkgfeaa
open Go.RowKit Go.Lg
section
variable {H : Type} {enc : TypeId × Value → H} {w : World}
theorem bulk_get {ds : List (DataW H)} {i : Nat} {d : DataW H} (h : ds[i]? = some d) : Rows.uptoBulk d ≤ Rows.uptoBulkAll ds := by
  induction ds generalizing i with
  | nil => simp at h
  | cons a r ih =>
    simp only [Rows.uptoBulkAll]
    cases i with
    | zero => simp at h; subst h; omega
    | succ i => have := ih (i := i) (by simpa using h); omega
theorem InB.str {t : TypeId} {d : DataW H} {cs : List Value} (ht : Try.prog.underlying t = some .string) (h : InB enc w t d cs) : ∃ s : ByteArray, cs = [.string s] ∧ s.size + 1 ≤ Rows.uptoBulk d := by
  obtain ⟨m, x, h⟩ := h
  obtain ⟨s, h1, hx, h2⟩ := DataW.trod_string ht h
  obtain ⟨rfl, -⟩ := Prod.mk.inj hx
  refine ⟨s, h1, ?_⟩
  simp only [Rows.uptoBulk, Array.length_toList]
  exact Nat.le_refl _
theorem InB.struct {t : TypeId} {fs : Array Field} {d : DataW H} {cs : List Value} (ht : Try.prog.underlying t = some (.struct fs)) (h : InB enc w t d cs) :
    cs.length = Try.prog.cellsOf t ∧ ∀ (i : Nat) (f : Field), fs[i]? = some f → ∃ di, InB enc w f.type di ((cs.drop f.offset).take (Try.prog.cellsOf f.type)) ∧ Rows.uptoBulk di ≤ Rows.uptoBulk d := by
  obtain ⟨m, x, h⟩ := h
  obtain ⟨xs, n, _, hx, h1, h2, h3⟩ := DataW.trod_struct ht h
  obtain ⟨rfl, -⟩ := Prod.mk.inj hx
  refine ⟨h1, fun i f hf => ?_⟩
  have hi : i < xs.length := by rw [h2]; exact (Array.getElem?_eq_some_iff.1 hf).1
  refine ⟨xs[i].1, ⟨n, xs[i].2, by rw [h3 i f hf, List.getElem?_eq_getElem hi]⟩, ?_⟩
  have := bulk_get (ds := xs.map (·.1)) (i := i) (d := xs[i].1) (by rw [List.getElem?_map, List.getElem?_eq_getElem hi]; rfl)
  simp only [Rows.uptoBulk]
  omega
end
end Go.Proofs.Ytplblpakbkgfeaa
