import Derived.Test.YtplblpakbkgfeaaRows
import Derived.Test.YtplblpakbkgfeaaLgR
import Derived.Test.YtplblpakbkgfeaaLgW
set_option linter.unusedVariables false
set_option linter.unusedSimpArgs false
namespace Go.Proofs.Ytplblpakbkgfeaa
open Go.RowKit Go.Lg
/-! ### What came in, and how much of it there is -/
section
variable {H : Type} {enc : TypeId × Value → H} {w : World}
def InB (enc : TypeId × Value → H) (w : World) (t : TypeId) (d : DataW H) (cs : List Value) : Prop := ∃ n ps, DataW.trod enc Try.prog w 0 (fun _ => true) true n t cs = some (d, ps)
theorem InB.inn {t : TypeId} {d : DataW H} {cs : List Value} (h : InB enc w t d cs) : In enc Try.prog w t cs := by
  obtain ⟨n, ps, h⟩ := h
  exact ⟨n, _, h⟩
theorem bulk_pos (d : DataW H) : 1 ≤ Rows.uptoBulk d := by
  cases d with
  | lit x => cases x <;> simp [Rows.uptoBulk]
  | _ => simp [Rows.uptoBulk]
theorem bulkAll_len (ds : List (DataW H)) : ds.length ≤ Rows.uptoBulkAll ds := by
  induction ds with
  | nil => simp [Rows.uptoBulkAll]
  | cons d r ih =>
    have := bulk_pos d
    simp only [Rows.uptoBulkAll, List.length_cons]
    omega
theorem bulkAll_sum : ∀ (ds : List (DataW H)) (f : Nat → Nat), (∀ i (h : i < ds.length), f i ≤ Rows.uptoBulk ds[i]) → ((List.range ds.length).map f).sum ≤ Rows.uptoBulkAll ds
  | [], _, _ => by simp
  | d :: r, f, h => by
    have h1 := bulkAll_sum r (fun i => f (i + 1)) fun i hi => h (i + 1) (by simpa using hi)
    have h2 := h 0 (by simp)
    simp only [List.getElem_cons_zero] at h2
    rw [List.length_cons, List.range_succ_eq_map, List.map_cons, List.sum_cons, List.map_map]
    simp only [Rows.uptoBulkAll]
    have e : (f ∘ Nat.succ) = fun i => f (i + 1) := rfl
    rw [e]
    omega
/-- A slice that came in, element by element, with their data. -/
theorem InB.slice {t e : TypeId} {d : DataW H} {cs : List Value} (ht : Try.prog.underlying t = some (.slice e)) (he : 0 < Try.prog.cellsOf e) (h : InB enc w t d cs) :
    ∃ A len cap, cs = [.slice A len cap] ∧ len ≤ cap ∧ cap ≤ maxLen ∧ (A = none → len = 0 ∧ cap = 0) ∧ ∃ ds : List (DataW H), ds.length = len ∧ Rows.uptoBulkAll ds + 1 ≤ Rows.uptoBulk d ∧
      (0 < len → ∃ b o, A = some ⟨b, o, none⟩ ∧ ∀ i (hi : i < ds.length), ∃ es, es.length = Try.prog.cellsOf e ∧ InB enc w e ds[i] es ∧ ∀ j u, es[j]? = some u → w.cell? ⟨b, o + i * Try.prog.cellsOf e + j, none⟩ = some u) := by
  obtain ⟨m, x, h⟩ := h
  rcases DataW.trod_slice ht h with ⟨rfl, hx⟩ | ⟨a, len, cap, elems, rest, n, _, rfl, hx, _, h1, h2, h3, h4, _⟩
  · exact ⟨none, 0, 0, rfl, Nat.le_refl _, Nat.zero_le _, fun _ => ⟨rfl, rfl⟩, [], rfl, by simp only [Rows.uptoBulkAll]; exact bulk_pos d, fun h => absurd h (Nat.lt_irrefl 0)⟩
  · obtain ⟨rfl, -⟩ := Prod.mk.inj hx
    refine ⟨some a, len, cap, rfl, h1, h2, (fun h => by cases h), elems.map (·.1), by simpa using h3, by simp only [Rows.uptoBulk]; omega, fun hl => ?_⟩
    have key : ∀ i (hi : i < (elems.map (·.1)).length), ∃ es, es.length = Try.prog.cellsOf e ∧ InB enc w e (elems.map (·.1))[i] es ∧ ∀ j, j < Try.prog.cellsOf e → w.cell? ((a.add (i * Try.prog.cellsOf e)).add j) = es[j]? := fun i hi => by
      rw [List.length_map] at hi
      have := h4 i (by omega)
      rw [List.getElem?_eq_getElem (by omega), Option.bind_eq_some_iff] at this
      obtain ⟨es, he1, he2⟩ := this
      obtain ⟨_, e1, e2⟩ := World.cells?_some he1
      exact ⟨es, e1, ⟨n, elems[i].2, by rw [List.getElem_map]; exact he2⟩, e2⟩
    obtain ⟨b, o, spot⟩ := a
    obtain ⟨es0, e1, _, e2⟩ := key 0 (by rw [List.length_map]; omega)
    have hc : w.cell? ((Addr.add ⟨b, o, spot⟩ (0 * Try.prog.cellsOf e)).add 0) = some (es0[0]'(by omega)) := by rw [e2 0 he, List.getElem?_eq_getElem (by omega)]
    have hspot : spot = none := by simpa [Addr.add] using World.cell?_spot hc
    subst hspot
    refine ⟨b, o, rfl, fun i hi => ?_⟩
    obtain ⟨es, e1, e2, e3⟩ := key i hi
    refine ⟨es, e1, e2, fun j u hu => ?_⟩
    have hj : j < es.length := (List.getElem?_eq_some_iff.1 hu).1
    have := e3 j (by omega)
    rw [addr_add, addr_add, hu] at this
    exact this
theorem InB.bytes {t e : TypeId} {d : DataW H} {cs : List Value} (ht : Try.prog.underlying t = some (.slice e)) (he : Try.prog.underlying e = some (.int .u8)) (hc : Try.prog.cellsOf e = 1) (h : InB enc w t d cs) :
    ∃ A len cap, ∃ bs : List UInt8, cs = [.slice A len cap] ∧ bs.length = len ∧ len + 1 ≤ Rows.uptoBulk d ∧ (A = none → len = 0 ∧ cap = 0) ∧ Src w [] A (bs.map bv) := by
  obtain ⟨A, len, cap, hcs, h1, h2, h3, ds, h4, h5, _⟩ := InB.slice ht (by omega) h
  obtain ⟨A', len', cap', bs, hcs', g1, _, g3, g4⟩ := In.bytes ht he hc h.inn
  rw [hcs] at hcs'
  obtain ⟨rfl, rfl, rfl⟩ : A = A' ∧ len = len' ∧ cap = cap' := by simpa using hcs'
  have := bulkAll_len ds
  exact ⟨A, len, cap, bs, hcs, g1, by omega, g3, g4⟩
/-- Rows of bytes that came in. -/
def RowsIn (w : World) (A : Option Addr) (bss : List (List UInt8)) : Prop :=
  0 < bss.length → ∃ b o, A = some ⟨b, o, none⟩ ∧ ∀ i bs, bss[i]? = some bs → ∃ Ai c, w.cell? ⟨b, o + i * 1, none⟩ = some (.slice Ai bs.length c) ∧ Src w [] Ai (bs.map bv) ∧ (Ai = none → bs.length = 0 ∧ c = 0)
theorem RowsIn.at_ {A : Option Addr} {bss : List (List UInt8)} (h : RowsIn w A bss) (r : List Ent) : RowsAt w r A bss := by
  rcases Nat.eq_zero_or_pos bss.length with h0 | h0
  · obtain rfl := List.eq_nil_of_length_eq_zero h0
    exact ⟨[], rfl, Src.nil .., fun i bs h => by simp at h⟩
  · obtain ⟨b, o, rfl, g⟩ := h h0
    refine ⟨(List.range bss.length).map fun i => (w.cell? ⟨b, o + i * 1, none⟩).getD undef, by simp, Src.was fun j u hu => ?_, fun i bs hb => ?_⟩
    · rw [List.getElem?_map] at hu
      obtain ⟨k, hk, rfl⟩ := Option.map_eq_some_iff.1 hu
      obtain ⟨hj, rfl⟩ := List.getElem?_eq_some_iff.1 hk
      rw [List.length_range] at hj
      rw [List.getElem_range, addr_add]
      obtain ⟨Ai, c, h1, _⟩ := g j _ (List.getElem?_eq_getElem hj)
      rw [Nat.mul_one] at h1 ⊢
      rw [h1]; rfl
    · obtain ⟨Ai, c, h1, h2, h3⟩ := g i bs hb
      have hi := (List.getElem?_eq_some_iff.1 hb).1
      refine ⟨Ai, c, ?_, h2.mono fun e he => by simp at he, h3⟩
      rw [List.getElem?_map, List.getElem?_range hi]
      simp only [Option.map_some, h1, Option.getD_some]
theorem InB.rows {t s e : TypeId} {d : DataW H} {cs : List Value} (ht : Try.prog.underlying t = some (.slice s)) (hs : Try.prog.underlying s = some (.slice e)) (hcs : Try.prog.cellsOf s = 1) (he : Try.prog.underlying e = some (.int .u8)) (hc : Try.prog.cellsOf e = 1) (h : InB enc w t d cs) :
    ∃ A len cap, ∃ bss : List (List UInt8), cs = [.slice A len cap] ∧ bss.length = len ∧ len ≤ cap ∧ cap ≤ maxLen ∧ (A = none → len = 0 ∧ cap = 0) ∧ (bss.map fun bs => bs.length + 1).sum + 1 ≤ Rows.uptoBulk d ∧ RowsIn w A bss := by
  obtain ⟨A, len, cap, rfl, h1, h2, h3, ds, h4, h5, h6⟩ := InB.slice ht (by omega) h
  rcases Nat.eq_zero_or_pos len with h0 | h0
  · have := bulk_pos d
    exact ⟨A, len, cap, [], rfl, by simpa using h0.symm, h1, h2, h3, by simpa using this, fun h => by simp at h⟩
  · obtain ⟨b, o, rfl, h7⟩ := h6 h0
    have key : ∀ i, ∃ bs : List UInt8, ∀ hi : i < ds.length, bs.length + 1 ≤ Rows.uptoBulk ds[i] ∧ ∃ Ai c, w.cell? ⟨b, o + i * 1, none⟩ = some (.slice Ai bs.length c) ∧ Src w [] Ai (bs.map bv) ∧ (Ai = none → bs.length = 0 ∧ c = 0) := fun i => by
      by_cases hi : i < ds.length
      · obtain ⟨es, e1, e2, e3⟩ := h7 i hi
        obtain ⟨Ai, li, ci, bs, rfl, g1, g2, g3, g4⟩ := InB.bytes hs he hc e2
        refine ⟨bs, fun _ => ⟨by omega, Ai, ci, ?_, g4, fun h => by rw [g1]; exact g3 h⟩⟩
        have := e3 0 _ rfl
        rw [hcs] at this
        rw [g1]; exact this
      · exact ⟨[], fun h => absurd h hi⟩
    refine ⟨some ⟨b, o, none⟩, len, cap, (List.range ds.length).map fun i => Classical.choose (key i), rfl, by simpa using h4, h1, h2, (fun h => by cases h), ?_, fun _ => ⟨b, o, rfl, fun i bs hb => ?_⟩⟩
    · rw [List.map_map]
      have := bulkAll_sum ds ((fun bs : List UInt8 => bs.length + 1) ∘ fun i => Classical.choose (key i)) fun i hi => (Classical.choose_spec (key i) hi).1
      omega
    · rw [List.getElem?_map] at hb
      obtain ⟨k, hk, rfl⟩ := Option.map_eq_some_iff.1 hb
      obtain ⟨hi, rfl⟩ := List.getElem?_eq_some_iff.1 hk
      rw [List.length_range] at hi
      rw [List.getElem_range]
      exact (Classical.choose_spec (key i) hi).2
theorem flat_sum (bss : List (List UInt8)) : bss.flatten.length ≤ (bss.map fun bs => bs.length + 1).sum := by
  induction bss with
  | nil => simp
  | cons b r ih => simp only [List.flatten_cons, List.length_append, List.map_cons, List.sum_cons]; omega
theorem row_sum {bss : List (List UInt8)} {i : Nat} {bs : List UInt8} (h : bss[i]? = some bs) : bs.length + 1 ≤ (bss.map fun bs => bs.length + 1).sum := by
  induction bss generalizing i with
  | nil => simp at h
  | cons b r ih =>
    cases i with
    | zero => simp at h; subst h; simp only [List.map_cons, List.sum_cons]; omega
    | succ i => have := ih (i := i) (by simpa using h); simp only [List.map_cons, List.sum_cons]; omega
end
end Go.Proofs.Ytplblpakbkgfeaa
