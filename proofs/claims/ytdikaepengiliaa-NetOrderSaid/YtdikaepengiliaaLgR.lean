import Derived.Test.YtdikaepengiliaaLgF
import Derived.WalkKit
import Derived.ProofKit
import Derived.OpenShut
import Derived.ShutString
import Derived.ChangeOld
import Derived.Below
namespace Go.Lg
open Go.RowKit
/-- What is known of a slice of integers that came in. -/
def IsRow (k : IntKind) (w : World) (a : Option Addr) (len cap : Nat) (zs : List Int) : Prop :=
  (a = none ∧ len = 0 ∧ cap = 0 ∧ zs = []) ∨
  ∃ x, a = some x ∧ len ≤ cap ∧ cap ≤ maxLen ∧ zs.length = cap ∧ (∀ i, i < zs.length → w.cell? (x.add i) = some (.int k (zs.getD i 0))) ∧ ∀ n ∈ zs, (Lit.int k n).wf = true
theorem byte_wf {n : Int} (h : (Lit.int .u8 n).wf = true) : ∃ b : UInt8, Value.int .u8 n = bv b := by
  have h1 : 0 ≤ n ∧ n < 256 := by
    simp [Lit.wf, IntKind.min, IntKind.max, IntKind.bits, IntKind.signed] at h
    omega
  refine ⟨UInt8.ofNat n.toNat, ?_⟩
  have : ((UInt8.ofNat n.toNat).toNat : Int) = n := by
    rw [UInt8.toNat_ofNat_of_lt' (by simp; omega)]
    omega
  unfold bv
  rw [this]
theorem bytes_wf : ∀ zs : List Int, (∀ n ∈ zs, (Lit.int .u8 n).wf = true) → ∃ bs : List UInt8, zs.map (Value.int .u8) = bs.map bv
  | [], _ => ⟨[], rfl⟩
  | z :: zs, h => by
    obtain ⟨b, hb⟩ := byte_wf (h z (List.mem_cons_self ..))
    obtain ⟨bs, hbs⟩ := bytes_wf zs fun n hn => h n (List.mem_cons_of_mem _ hn)
    exact ⟨b :: bs, by rw [List.map_cons, List.map_cons, hb, hbs]⟩
/-- A slice of bytes that came in, as the walks take it. -/
theorem IsRow.bytes {w : World} {a : Option Addr} {len cap : Nat} {zs : List Int} (h : IsRow .u8 w a len cap zs) :
    ∃ bs : List UInt8, bs.length = len ∧ Src w [] a (bs.map bv) ∧ (a = none → len = 0 ∧ cap = 0) ∧ len ≤ maxLen := by
  rcases h with ⟨rfl, rfl, rfl, rfl⟩ | ⟨x, rfl, h1, h2, h3, h4, h5⟩
  · exact ⟨[], rfl, Src.nil .., fun _ => ⟨rfl, rfl⟩, Nat.zero_le _⟩
  · obtain ⟨bs, hbs⟩ := bytes_wf (zs.take len) fun n hn => h5 n (List.mem_of_mem_take hn)
    have hl : bs.length = len := by
      have := congrArg List.length hbs
      simp at this
      omega
    refine ⟨bs, hl, ?_, (fun h => by cases h), by omega⟩
    rw [← hbs]
    refine Src.was fun j u hu => ?_
    rw [List.getElem?_map, List.getElem?_take] at hu
    split at hu
    · next hj =>
      rw [h4 j (by omega), List.getD_eq_getElem?_getD]
      obtain ⟨z, hz, rfl⟩ := Option.map_eq_some_iff.1 hu
      rw [hz]
      rfl
    · cases hu
/-- A slice of integers that came in, as the walks take it. -/
theorem IsRow.ints {k : IntKind} {w : World} {a : Option Addr} {len cap : Nat} {zs : List Int} (h : IsRow k w a len cap zs) (h0 : 0 < len) :
    ∃ b o, a = some ⟨b, o, none⟩ ∧ len ≤ cap ∧ ∀ i, i < len → w.cell? ⟨b, o + i * 1, none⟩ = some (.int k (zs.getD i 0)) := by
  rcases h with ⟨_, rfl, _, _⟩ | ⟨x, rfl, h1, h2, h3, h4, h5⟩
  · omega
  · obtain ⟨b, o, spot⟩ := x
    have hc := h4 0 (by omega)
    have hspot : spot = none := by simpa [Addr.add] using World.cell?_spot hc
    subst hspot
    refine ⟨b, o, rfl, h1, fun i hi => ?_⟩
    have := h4 i (by omega)
    rwa [addr_add, show o + i = o + i * 1 from by omega] at this
end Go.Lg
