import Derived.Test.YtplblpakbkgfeaaLgX
set_option linter.unusedVariables false
set_option linter.unusedSimpArgs false
namespace Go.Lg
open Go.RowKit
variable {P : Program} {ρ : Operand → Value} {d : Option Tmp} {ty : TypeId} {pos : String} {af : Array Edge} {gd : Option (Nat × Bool)} {W : World} {l : List Ent} {Ψ : Value → List Ent → Prop}
theorem y_max {t t' : TypeId} {x y : Operand} {k : IntKind} {a b c : Int} (hx : ρ x = .int k a) (hy : ρ y = .int k b) (hc : (if b > a then b else a) = c) : Yld P ⟨d, .call { callee := .builtin .max, args := #[x, y], argTypes := #[t, t'] }, ty, pos, af, gd⟩ ρ (.int k c) := fun w => by
  subst hc
  simp [execOp, resolve, invoke, builtin, Builtin.max_, hx, hy, Builtin.max2, List.foldlM]
/-- make with a capacity and no elements. -/
theorem e_makeCap {t e : TypeId} {x y : Operand} {n by_ : Nat} {z : Value} {k k' : IntKind} [ht : SliceT P t e] [hi : RowT P e 1 by_] [hz : Zr P e [z]] (hx : ρ x = .int k 0) (hy : ρ y = .int k' (n : Int)) (hb : by_ * n ≤ 281474976710656) (h63 : n ≤ maxLen)
    (h : ∀ b, Ψ (.slice (some ⟨b, 0, none⟩) 0 n) ((b, isR e (n * 1) []) :: l)) : Eff P W l ⟨d, .makeSlice t x y, ty, pos, af, gd⟩ ρ Ψ := by
  obtain ⟨i, zv, hi1, hi2, hi3, hi4, hi5, hi6⟩ := rowB_spec hi.h
  refine e_new (ob := .cells (madeCells zv.cells (n * i.size)) e) (v := fun b => .slice (some ⟨b, 0, none⟩) 0 n) (fun w => ?_) ?_ h
  · have h63' : (n : Int) ≤ 9223372036854775807 := by
      have h := h63
      simp [maxLen] at h
      omega
    have hb' : (i.bytes : Int) * (n : Int) ≤ 281474976710656 := by
      have h : ((i.bytes * n : Nat) : Int) ≤ 281474976710656 := by rw [hi4]; omega
      rwa [Int.natCast_mul] at h
    have hr := run_make (P := P) w t e i zv ht.h hi1 hi2 k k' 0 n (by omega) (by omega) hb' h63'
    simp only [Int.toNat_natCast, Int.toNat_zero] at hr
    simp only [execOp, hx, hy, Sem.run_bind, hr, Result.andThen_ok, Sem.run_pure]
  · refine ⟨_, rfl, ?_, by simp⟩
    rw [hi3]
    simp [madeCells]
/-- An element of an array of words. -/
theorem nth_w32 {ls : List (BitVec 32)} {j : Nat} (hj : j < ls.length) : nth (ls.map w32) (0 + j * 1) = some (w32 (ls.getD j 0)) := by
  rw [nth_eq, Nat.mul_one, Nat.zero_add, List.getElem?_map, List.getElem?_eq_getElem hj]
  simp [List.getD, hj]
end Go.Lg
