import Derived.Test.YtplblpakbkgfeaaC7
set_option linter.unusedVariables false
set_option linter.unusedSimpArgs false
namespace Go.Proofs.Ytplblpakbkgfeaa
open Go.RowKit Go.Lg
attribute [local irreducible] JC JL JD RN RT Eff Yld YldIf Tr
def ce (e : Int) : Crd := ⟨ByteArray.empty, ByteArray.empty, 0, fun _ => 0, e, []⟩
/-- The i-th principal of the law. -/
def fi (e : Int) (i : Nat) : It := ⟨⟨#[65]⟩, ba [UInt8.ofNat (97 + i)], ce e⟩
def fis (e : Int) (n : Nat) : List It := (List.range n).map (fi e)
theorem fis_len (e : Int) (n : Nat) : (fis e n).length = n := by simp [fis]
theorem fis_succ (e : Int) (n : Nat) : fis e (n + 1) = fis e n ++ [fi e n] := by simp [fis, List.range_succ]
theorem fis_keep {e now : Int} (n : Nat) (h : now ≤ e) : (fis e n).filter (keepI now) = fis e n := by
  rw [List.filter_eq_self]
  intro x hx
  obtain ⟨j, _, rfl⟩ := List.mem_map.1 hx
  simpa [keepI, fi, ce] using h
theorem fis_gone {e now : Int} (n : Nat) (h : e < now) : (fis e n).filter (keepI now) = [] := by
  rw [List.filter_eq_nil_iff]
  intro x hx
  obtain ⟨j, _, rfl⟩ := List.mem_map.1 hx
  simp [keepI, fi, ce]
  omega
theorem fis_look {e : Int} {n i : Nat} (h : n ≤ i) (hi : i < 100) : look ⟨#[65]⟩ (ba [UInt8.ofNat (97 + i)]) (fis e n) = none := by
  simp only [look, Option.map_eq_none_iff, List.find?_eq_none]
  intro x hx hc
  obtain ⟨j, hj, rfl⟩ := List.mem_map.1 hx
  have hj := List.mem_range.1 hj
  simp only [It.is, Bool.and_eq_true] at hc
  have h2 := (MapKept.bytes_beq _ _).1 hc.2
  have h3 : (ba [UInt8.ofNat (97 + i)]).toList = (ba [UInt8.ofNat (97 + j)]).toList := congrArg ByteArray.toList h2
  rw [ba_toList, ba_toList] at h3
  have h4 := congrArg UInt8.toNat (List.cons.inj h3).1
  have hsz : UInt8.size = 256 := rfl
  rw [UInt8.toNat_ofNat_of_lt' (by omega), UInt8.toNat_ofNat_of_lt' (by omega)] at h4
  omega
end Go.Proofs.Ytplblpakbkgfeaa
