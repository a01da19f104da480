import Derived.Test.YtplblpakbkgfeaaC8
import Derived.Test.YtplblpakbkgfeaaU2
set_option linter.unusedVariables false
set_option linter.unusedSimpArgs false
namespace Go.Proofs.Ytplblpakbkgfeaa
open Go.RowKit Go.Lg
section
variable {H : Type} {enc : TypeId × Value → H} {W : World}
theorem agg_of1 {v : Value} {x y : Value} {xs : List Value} (h : v.cells.toList = x :: y :: xs) : v = .agg (x :: y :: xs).toArray := by
  cases v <;> simp [Value.cells] at h
  rename_i cs
  congr 1
  apply Array.ext'
  rw [h]
theorem princ_inB {d : DataW H} {cs : List Value} (h : InB enc W 26 d cs) : ∃ p q : ByteArray, cs = [.string p, .string q] ∧ p.size + 1 ≤ Rows.uptoBulk d ∧ q.size + 1 ≤ Rows.uptoBulk d := by
  obtain ⟨hl, f1⟩ := InB.struct Try.underlying26 h
  have s9 : Try.prog.cellsOf 9 = 1 := by kernel_rfl
  have s26 : Try.prog.cellsOf 26 = 2 := by kernel_rfl
  obtain ⟨d0, k0, b0⟩ : ∃ di, InB enc W 9 di ((cs.drop 0).take (Try.prog.cellsOf 9)) ∧ Rows.uptoBulk di ≤ Rows.uptoBulk d := f1 0 _ rfl
  obtain ⟨d1, k1, b1⟩ : ∃ di, InB enc W 9 di ((cs.drop 1).take (Try.prog.cellsOf 9)) ∧ Rows.uptoBulk di ≤ Rows.uptoBulk d := f1 1 _ rfl
  rw [s9] at k0 k1
  rw [s26] at hl
  obtain ⟨p, hp, lp⟩ := InB.str Try.underlying9 k0
  obtain ⟨q, hq, lq⟩ := InB.str Try.underlying9 k1
  refine ⟨p, q, ?_, by omega, by omega⟩
  match cs, hl with
  | [x0, x1], _ =>
    simp at hp hq
    simp [hp, hq]
theorem ses_in {cs : List Value} (h : In enc Try.prog W 32 cs) : ∃ s : Nat → Int, ∀ i, i < 32 → (cs.drop i).take 1 = [.int .u8 (s i)] := by
  obtain ⟨m, x, h⟩ := h
  obtain ⟨xs, n, _, _, hl, h2, h3⟩ := DataW.trod_array Try.underlying32 h
  have s5 : Try.prog.cellsOf 5 = 1 := by kernel_rfl
  have key : ∀ i, ∃ z : Int, i < 32 → (cs.drop i).take 1 = [.int .u8 z] := fun i => by
    by_cases hi : i < 32
    · have := h3 i hi
      rw [s5, Nat.mul_one, List.getElem?_eq_getElem (by omega)] at this
      obtain ⟨z, hz, _⟩ := In.int Try.underlying5 (enc := enc) (w := W) ⟨n, _, this⟩
      exact ⟨z, fun _ => hz⟩
    · exact ⟨0, fun h => absurd h hi⟩
  exact ⟨fun i => Classical.choose (key i), fun i hi => Classical.choose_spec (key i) hi⟩
set_option maxHeartbeats 4000000 in
theorem cred_inB {d : DataW H} {cs : List Value} (h : InB enc W 34 d cs) (hB : Rows.uptoBulk d ≤ 1048576) : ∃ (c : Crd) (dv : Value), cs = c.cells dv ∧ Dv W [] dv c.bs ∧ c.bs.length + 1 ≤ Rows.uptoBulk d ∧ c.a.size + 1 ≤ Rows.uptoBulk d ∧ c.b.size + 1 ≤ Rows.uptoBulk d := by
  obtain ⟨hl, f1⟩ := InB.struct Try.underlying34 h
  have s3 : Try.prog.cellsOf 3 = 1 := by kernel_rfl
  have s26 : Try.prog.cellsOf 26 = 2 := by kernel_rfl
  have s30 : Try.prog.cellsOf 30 = 4 := by kernel_rfl
  have s32 : Try.prog.cellsOf 32 = 32 := by kernel_rfl
  have s34 : Try.prog.cellsOf 34 = 37 := by kernel_rfl
  have s24 : Try.prog.cellsOf 24 = 1 := by kernel_rfl
  obtain ⟨d0, k0, b0⟩ : ∃ di, InB enc W 30 di ((cs.drop 0).take (Try.prog.cellsOf 30)) ∧ Rows.uptoBulk di ≤ Rows.uptoBulk d := f1 0 _ rfl
  obtain ⟨d1, k1, b1⟩ : ∃ di, InB enc W 32 di ((cs.drop 4).take (Try.prog.cellsOf 32)) ∧ Rows.uptoBulk di ≤ Rows.uptoBulk d := f1 1 _ rfl
  obtain ⟨d2, k2, b2⟩ : ∃ di, InB enc W 3 di ((cs.drop 36).take (Try.prog.cellsOf 3)) ∧ Rows.uptoBulk di ≤ Rows.uptoBulk d := f1 2 _ rfl
  rw [s30] at k0
  rw [s32] at k1
  rw [s3] at k2
  rw [s34] at hl
  obtain ⟨_, f2⟩ := InB.struct Try.underlying30 k0
  obtain ⟨d3, k3, b3⟩ : ∃ di, InB enc W 26 di ((((cs.drop 0).take 4).drop 0).take (Try.prog.cellsOf 26)) ∧ Rows.uptoBulk di ≤ Rows.uptoBulk d0 := f2 0 _ rfl
  obtain ⟨d4, k4, b4⟩ : ∃ di, InB enc W 3 di ((((cs.drop 0).take 4).drop 2).take (Try.prog.cellsOf 3)) ∧ Rows.uptoBulk di ≤ Rows.uptoBulk d0 := f2 1 _ rfl
  obtain ⟨d5, k5, b5⟩ : ∃ di, InB enc W 24 di ((((cs.drop 0).take 4).drop 3).take (Try.prog.cellsOf 24)) ∧ Rows.uptoBulk di ≤ Rows.uptoBulk d0 := f2 2 _ rfl
  rw [s26] at k3
  rw [s3] at k4
  rw [s24] at k5
  obtain ⟨p, q, hpq, lp, lq⟩ := princ_inB k3
  obtain ⟨kv, hkv, _⟩ := In.int Try.underlying3 k4.inn
  obtain ⟨A, len, cap, bs, hbs, l1, l2, l3, l4⟩ := InB.bytes Try.underlying24 Try.underlying5 (by kernel_rfl) k5
  obtain ⟨s, hs⟩ := ses_in k1.inn
  obtain ⟨en, hen, _⟩ := In.int Try.underlying3 k2.inn
  refine ⟨⟨p, q, kv, s, en, bs⟩, .slice A len cap, ?_, ⟨A, cap, by rw [l1], by show bs.length ≤ _; omega, fun h => by show bs.length = 0 ∧ cap = 0; rw [l1]; exact l3 h, l4⟩, by show bs.length + 1 ≤ _; omega, by show p.size + 1 ≤ _; omega, by show q.size + 1 ≤ _; omega⟩
  match cs, hl with
  | x0 :: x1 :: x2 :: x3 :: x4 :: x5 :: x6 :: x7 :: x8 :: x9 :: x10 :: x11 :: x12 :: x13 :: x14 :: x15 :: x16 :: x17 :: x18 :: x19 :: x20 :: x21 :: x22 :: x23 :: x24 :: x25 :: x26 :: x27 :: x28 :: x29 :: x30 :: x31 :: x32 :: x33 :: x34 :: x35 :: x36 :: [], _ =>
    have e0 := hs 0 (by omega)
    have e1 := hs 1 (by omega)
    have e2 := hs 2 (by omega)
    have e3 := hs 3 (by omega)
    have e4 := hs 4 (by omega)
    have e5 := hs 5 (by omega)
    have e6 := hs 6 (by omega)
    have e7 := hs 7 (by omega)
    have e8 := hs 8 (by omega)
    have e9 := hs 9 (by omega)
    have e10 := hs 10 (by omega)
    have e11 := hs 11 (by omega)
    have e12 := hs 12 (by omega)
    have e13 := hs 13 (by omega)
    have e14 := hs 14 (by omega)
    have e15 := hs 15 (by omega)
    have e16 := hs 16 (by omega)
    have e17 := hs 17 (by omega)
    have e18 := hs 18 (by omega)
    have e19 := hs 19 (by omega)
    have e20 := hs 20 (by omega)
    have e21 := hs 21 (by omega)
    have e22 := hs 22 (by omega)
    have e23 := hs 23 (by omega)
    have e24 := hs 24 (by omega)
    have e25 := hs 25 (by omega)
    have e26 := hs 26 (by omega)
    have e27 := hs 27 (by omega)
    have e28 := hs 28 (by omega)
    have e29 := hs 29 (by omega)
    have e30 := hs 30 (by omega)
    have e31 := hs 31 (by omega)
    simp at hpq hkv hbs hen e0 e1 e2 e3 e4 e5 e6 e7 e8 e9 e10 e11 e12 e13 e14 e15 e16 e17 e18 e19 e20 e21 e22 e23 e24 e25 e26 e27 e28 e29 e30 e31
    obtain ⟨g1, g2⟩ := hpq
    simp only [Crd.cells, g1, g2, hkv, hbs, hen, e0, e1, e2, e3, e4, e5, e6, e7, e8, e9, e10, e11, e12, e13, e14, e15, e16, e17, e18, e19, e20, e21, e22, e23, e24, e25, e26, e27, e28, e29, e30, e31]
end
end Go.Proofs.Ytplblpakbkgfeaa
