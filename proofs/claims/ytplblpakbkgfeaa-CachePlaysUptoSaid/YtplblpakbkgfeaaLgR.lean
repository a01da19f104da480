import Derived.Test.YtplblpakbkgfeaaLgF
import Derived.WalkKit
import Derived.ProofKit
import Derived.OpenShut
import Derived.ShutString
import Derived.ChangeOld
import Derived.Below
set_option linter.unusedVariables false
set_option linter.unusedSimpArgs false
namespace Go.Lg
open Go.RowKit
/-- What is known of a slice of integers that came in. -/
def IsRow (k : IntKind) (w : World) (a : Option Addr) (len cap : Nat) (zs : List Int) : Prop :=
  (a = none ∧ len = 0 ∧ cap = 0 ∧ zs = []) ∨
  ∃ x, a = some x ∧ len ≤ cap ∧ cap ≤ maxLen ∧ zs.length = cap ∧ (∀ i, i < zs.length → w.cell? (x.add i) = some (.int k (zs.getD i 0))) ∧ ∀ n ∈ zs, (Lit.int k n).wf = true
theorem byte_wf {n : Int} (h : (Lit.int .u8 n).wf = true) : ∃ b : UInt8, Value.int .u8 n = bv b := by
  have h1 : 0 ≤ n ∧ n < 256 := by
    simp [Lit.wf, IntKind.min, IntKind.max, IntKind.bits, IntKind.signed] at h
    omega
  refine ⟨UInt8.ofNat n.toNat, ?_⟩
  have : ((UInt8.ofNat n.toNat).toNat : Int) = n := by
    rw [UInt8.toNat_ofNat_of_lt' (by simp; omega)]
    omega
  unfold bv
  rw [this]
theorem bytes_wf : ∀ zs : List Int, (∀ n ∈ zs, (Lit.int .u8 n).wf = true) → ∃ bs : List UInt8, zs.map (Value.int .u8) = bs.map bv
  | [], _ => ⟨[], rfl⟩
  | z :: zs, h => by
    obtain ⟨b, hb⟩ := byte_wf (h z (List.mem_cons_self ..))
    obtain ⟨bs, hbs⟩ := bytes_wf zs fun n hn => h n (List.mem_cons_of_mem _ hn)
    exact ⟨b :: bs, by rw [List.map_cons, List.map_cons, hb, hbs]⟩
/-- A slice of bytes that came in, as the walks take it. -/
theorem IsRow.bytes {w : World} {a : Option Addr} {len cap : Nat} {zs : List Int} (h : IsRow .u8 w a len cap zs) :
    ∃ bs : List UInt8, bs.length = len ∧ Src w [] a (bs.map bv) ∧ (a = none → len = 0 ∧ cap = 0) ∧ len ≤ maxLen := by
  rcases h with ⟨rfl, rfl, rfl, rfl⟩ | ⟨x, rfl, h1, h2, h3, h4, h5⟩
  · exact ⟨[], rfl, Src.nil .., fun _ => ⟨rfl, rfl⟩, Nat.zero_le _⟩
  · obtain ⟨bs, hbs⟩ := bytes_wf (zs.take len) fun n hn => h5 n (List.mem_of_mem_take hn)
    have hl : bs.length = len := by
      have := congrArg List.length hbs
      simp at this
      omega
    refine ⟨bs, hl, ?_, (fun h => by cases h), by omega⟩
    rw [← hbs]
    refine Src.was fun j u hu => ?_
    rw [List.getElem?_map, List.getElem?_take] at hu
    split at hu
    · next hj =>
      rw [h4 j (by omega), List.getD_eq_getElem?_getD]
      obtain ⟨z, hz, rfl⟩ := Option.map_eq_some_iff.1 hu
      rw [hz]
      rfl
    · cases hu
/-- A slice of integers that came in, as the walks take it. -/
theorem IsRow.ints {k : IntKind} {w : World} {a : Option Addr} {len cap : Nat} {zs : List Int} (h : IsRow k w a len cap zs) (h0 : 0 < len) :
    ∃ b o, a = some ⟨b, o, none⟩ ∧ len ≤ cap ∧ ∀ i, i < len → w.cell? ⟨b, o + i * 1, none⟩ = some (.int k (zs.getD i 0)) := by
  rcases h with ⟨_, rfl, _, _⟩ | ⟨x, rfl, h1, h2, h3, h4, h5⟩
  · omega
  · obtain ⟨b, o, spot⟩ := x
    have hc := h4 0 (by omega)
    have hspot : spot = none := by simpa [Addr.add] using World.cell?_spot hc
    subst hspot
    refine ⟨b, o, rfl, h1, fun i hi => ?_⟩
    have := h4 i (by omega)
    rwa [addr_add, show o + i = o + i * 1 from by omega] at this
/-! ### What came in, opened by its type -/
section
variable {H : Type} (enc : TypeId × Value → H) (P : Program) (w : World)
def In (t : TypeId) (cs : List Value) : Prop := ∃ n x, DataW.trod enc P w 0 (fun _ => true) true n t cs = some x
variable {enc P w}
theorem In.int {t : TypeId} {k : IntKind} {cs : List Value} (ht : P.underlying t = some (.int k)) (h : In enc P w t cs) : ∃ n, cs = [.int k n] ∧ (Lit.int k n).wf = true := by
  obtain ⟨m, x, h⟩ := h
  obtain ⟨n, h1, _, h2⟩ := DataW.trod_int ht h
  exact ⟨n, h1, h2⟩
theorem In.str {t : TypeId} {cs : List Value} (ht : P.underlying t = some .string) (h : In enc P w t cs) : ∃ s : ByteArray, cs = [.string s] ∧ s.size ≤ maxLen := by
  obtain ⟨m, x, h⟩ := h
  obtain ⟨n, h1, _, h2⟩ := DataW.trod_string ht h
  exact ⟨n, h1, h2⟩
theorem In.struct {t : TypeId} {fs : Array Field} {cs : List Value} (ht : P.underlying t = some (.struct fs)) (h : In enc P w t cs) :
    cs.length = P.cellsOf t ∧ ∀ (i : Nat) (f : Field), fs[i]? = some f → In enc P w f.type ((cs.drop f.offset).take (P.cellsOf f.type)) := by
  obtain ⟨m, x, h⟩ := h
  obtain ⟨xs, n, _, _, h1, h2, h3⟩ := DataW.trod_struct ht h
  refine ⟨h1, fun i f hf => ?_⟩
  have hi : i < xs.length := by rw [h2]; exact (Array.getElem?_eq_some_iff.1 hf).1
  exact ⟨n, xs[i], by rw [h3 i f hf, List.getElem?_eq_getElem hi]⟩
/-- A slice that came in: nil and empty, or so many elements in a row. -/
theorem In.slice {t e : TypeId} {cs : List Value} (ht : P.underlying t = some (.slice e)) (he : 0 < P.cellsOf e) (h : In enc P w t cs) :
    ∃ A len cap, cs = [.slice A len cap] ∧ len ≤ cap ∧ cap ≤ maxLen ∧ (A = none → len = 0 ∧ cap = 0) ∧
      (0 < len → ∃ b o, A = some ⟨b, o, none⟩ ∧ ∀ i, i < len → ∃ es, es.length = P.cellsOf e ∧ In enc P w e es ∧ ∀ j u, es[j]? = some u → w.cell? ⟨b, o + i * P.cellsOf e + j, none⟩ = some u) := by
  obtain ⟨m, x, h⟩ := h
  rcases DataW.trod_slice ht h with ⟨rfl, _⟩ | ⟨a, len, cap, elems, rest, n, _, rfl, _, _, h1, h2, h3, h4, _⟩
  · exact ⟨none, 0, 0, rfl, Nat.le_refl _, Nat.zero_le _, fun _ => ⟨rfl, rfl⟩, fun h => absurd h (Nat.lt_irrefl 0)⟩
  · refine ⟨some a, len, cap, rfl, h1, h2, (fun h => by cases h), fun hl => ?_⟩
    have key : ∀ i, i < len → ∃ es, es.length = P.cellsOf e ∧ In enc P w e es ∧ ∀ j, j < P.cellsOf e → w.cell? ((a.add (i * P.cellsOf e)).add j) = es[j]? := fun i hi => by
      have := h4 i hi
      rw [List.getElem?_eq_getElem (by omega), Option.bind_eq_some_iff] at this
      obtain ⟨es, he1, he2⟩ := this
      obtain ⟨_, e1, e2⟩ := World.cells?_some he1
      exact ⟨es, e1, ⟨n, _, he2⟩, e2⟩
    obtain ⟨b, o, spot⟩ := a
    obtain ⟨es0, e1, _, e2⟩ := key 0 hl
    have hc : w.cell? ((Addr.add ⟨b, o, spot⟩ (0 * P.cellsOf e)).add 0) = some (es0[0]'(by omega)) := by rw [e2 0 he, List.getElem?_eq_getElem (by omega)]
    have hspot : spot = none := by simpa [Addr.add] using World.cell?_spot hc
    subst hspot
    refine ⟨b, o, rfl, fun i hi => ?_⟩
    obtain ⟨es, e1, e2, e3⟩ := key i hi
    refine ⟨es, e1, e2, fun j u hu => ?_⟩
    have hj : j < es.length := (List.getElem?_eq_some_iff.1 hu).1
    have := e3 j (by omega)
    rw [addr_add, addr_add, hu] at this
    exact this
theorem bytes_each {b o : Nat} : ∀ (n : Nat), (∀ i, i < n → ∃ x : UInt8, w.cell? ⟨b, o + i, none⟩ = some (bv x)) → ∃ bs : List UInt8, bs.length = n ∧ ∀ j u, (bs.map bv)[j]? = some u → w.cell? ⟨b, o + j, none⟩ = some u
  | 0, _ => ⟨[], rfl, fun j u h => by simp at h⟩
  | n + 1, h => by
    obtain ⟨bs, h1, h2⟩ := bytes_each n fun i hi => h i (by omega)
    obtain ⟨x, hx⟩ := h n (by omega)
    refine ⟨bs ++ [x], by simp [h1], fun j u hu => ?_⟩
    rw [List.map_append, List.getElem?_append] at hu
    split at hu
    · exact h2 j u hu
    · next hj =>
      have hj' : j = n := by
        simp at hj
        have := (List.getElem?_eq_some_iff.1 hu).1
        simp at this
        omega
      subst hj'
      simp [h1] at hu
      rw [hx, hu]
theorem In.bytes {t e : TypeId} {cs : List Value} (ht : P.underlying t = some (.slice e)) (he : P.underlying e = some (.int .u8)) (hc : P.cellsOf e = 1) (h : In enc P w t cs) :
    ∃ A len cap, ∃ bs : List UInt8, cs = [.slice A len cap] ∧ bs.length = len ∧ len ≤ maxLen ∧ (A = none → len = 0 ∧ cap = 0) ∧ Src w [] A (bs.map bv) := by
  obtain ⟨A, len, cap, rfl, h1, h2, h3, h4⟩ := In.slice ht (by omega) h
  rcases Nat.eq_zero_or_pos len with h0 | h0
  · subst h0
    exact ⟨A, 0, cap, [], rfl, rfl, Nat.zero_le _, h3, Src.nil ..⟩
  · obtain ⟨b, o, rfl, h5⟩ := h4 h0
    obtain ⟨bs, b1, b2⟩ := bytes_each (w := w) (b := b) (o := o) len fun i hi => by
      obtain ⟨es, e1, e2, e3⟩ := h5 i hi
      obtain ⟨z, rfl, hz⟩ := In.int he e2
      obtain ⟨x, hx⟩ := byte_wf hz
      refine ⟨x, ?_⟩
      have := e3 0 _ rfl
      rw [hc] at this
      simpa [hx] using this
    refine ⟨_, len, cap, bs, rfl, b1, by omega, (fun h => by cases h), Src.was fun j u hu => ?_⟩
    rw [addr_add]
    exact b2 j u hu
end
end Go.Lg
