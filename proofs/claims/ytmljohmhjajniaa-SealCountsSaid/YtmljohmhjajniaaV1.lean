import Derived.Test.YtmljohmhjajniaaS8
set_option linter.unusedVariables false
set_option linter.unusedSimpArgs false
namespace Go.Proofs.Ytmljohmhjajniaa
open Go.RowKit Go.Lg
attribute [local irreducible] JC JL JD RN RT Eff Yld YldIf Tr sealR openR Box
theorem nil_ps {A : Option Addr} {la ca : Nat} {ps : List UInt8} (hl : ps.length = la) (hn : A = none → la = 0 ∧ ca = 0) (h : A = none) : ps = [] := List.eq_nil_of_length_eq_zero (by rw [hl]; exact (hn h).1)
theorem b8_wf {n : Int} (h : (Lit.int .u8 n).wf = true) : ∃ x : UInt8, Value.int .u8 n = bv x := by
  have h2 : 0 ≤ n ∧ n ≤ 255 := by
    simp [Lit.wf, IntKind.min, IntKind.max, IntKind.bits, IntKind.signed] at h
    omega
  refine ⟨UInt8.ofNat n.toNat, ?_⟩
  unfold bv
  congr 1
  rw [UInt8.toNat_ofNat']
  omega
theorem and_small (a : Int) {m : Nat} (hm : m < 4611686018427387904) : ∃ r : Nat, r ≤ m ∧ bits .and .i64 a (m : Int) = (r : Int) := by
  have h1 : (BitVec.ofInt 64 a &&& BitVec.ofInt 64 (m : Int)).toNat ≤ m := by
    rw [BitVec.toNat_and]
    refine Nat.le_trans Nat.and_le_right ?_
    rw [BitVec.ofInt_natCast, BitVec.toNat_ofNat]
    exact Nat.mod_le _ _
  refine ⟨(BitVec.ofInt 64 a &&& BitVec.ofInt 64 (m : Int)).toNat, h1, ?_⟩
  show IntKind.i64.wrap ((BitVec.ofInt 64 a &&& BitVec.ofInt 64 (m : Int)).toNat : Int) = _
  exact wrap_add (by omega) (by omega)
theorem set_bv (xs : List UInt8) {j : Nat} (hj : j < xs.length) (x : UInt8) : (xs.map bv).take (0 + j * 1) ++ (bv x).cells.toList ++ (xs.map bv).drop (0 + j * 1 + 1) = (xs.set j x).map bv := by
  rw [List.set_eq_take_append_cons_drop, if_pos hj, Nat.mul_one, Nat.zero_add]
  simp [List.map_take, List.map_drop, bv, Value.cells]
end Go.Proofs.Ytmljohmhjajniaa
