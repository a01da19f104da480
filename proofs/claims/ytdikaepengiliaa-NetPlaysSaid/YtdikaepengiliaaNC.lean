import Derived.Test.YtdikaepengiliaaNB
import Derived.Test.YtdikaepengiliaaLgR
set_option linter.unusedVariables false
set_option linter.unusedSimpArgs false
namespace Go.Proofs.Ytdikaepengiliaa
open Go.RowKit Go.Lg
attribute [local irreducible] JC JL JD RN RT Eff Yld YldIf Tr
/-- An act that came in. -/
structure AcD where
  kind : Int
  f : Int
  t : Int
  A : Option Addr
  m : Nat
  c : Nat
  n : Int
  bs : List UInt8
def AcD.cells (a : AcD) : List Value := [.int .i64 a.kind, .int .i64 a.f, .int .i64 a.t, .slice a.A a.m a.c, .int .i64 a.n]
def AcD.ok (W : World) (a : AcD) : Prop := a.bs.length = a.m ∧ a.m ≤ maxLen ∧ (a.A = none → a.m = 0 ∧ a.c = 0) ∧ Src W [] a.A (a.bs.map bv)
def ActsAt (W : World) (b o len : Nat) (g : Nat → AcD) : Prop := ∀ i, i < len → (g i).ok W ∧ ∀ j u, (g i).cells[j]? = some u → W.cell? ⟨b, o + i * 5 + j, none⟩ = some u
theorem choose_below {α : Type} [Inhabited α] {n : Nat} {p : Nat → α → Prop} (h : ∀ i, i < n → ∃ a, p i a) : ∃ g : Nat → α, ∀ i, i < n → p i (g i) := by
  classical
  refine ⟨fun i => if hi : i < n then Classical.choose (h i hi) else default, fun i hi => ?_⟩
  simp only [hi, dif_pos]
  exact Classical.choose_spec (h i hi)
instance : Inhabited AcD := ⟨⟨0, 0, 0, none, 0, 0, 0, []⟩⟩
theorem acts_in {H : Type} {enc : TypeId × Value → H} {W : World} {cs : List Value} (h : In enc Try.prog W 36 cs) :
    ∃ A len cap, ∃ g : Nat → AcD, cs = [.slice A len cap] ∧ len ≤ maxLen ∧ (0 < len → ∃ b o, A = some ⟨b, o, none⟩ ∧ ActsAt W b o len g) := by
  obtain ⟨A, len, cap, rfl, h1, h2, h3, h4⟩ := In.slice Try.underlying36 (Nat.lt_of_lt_of_eq (Nat.zero_lt_succ 4) (Eq.symm (show Try.prog.cellsOf 42 = 5 by kernel_rfl))) h
  rcases Nat.eq_zero_or_pos len with h0 | h0
  · exact ⟨A, len, cap, default, rfl, by omega, fun h => by omega⟩
  · obtain ⟨b, o, rfl, h5⟩ := h4 h0
    have hsz : Try.prog.cellsOf 42 = 5 := by kernel_rfl
    have key : ∀ i, i < len → ∃ a : AcD, a.ok W ∧ ∀ j u, a.cells[j]? = some u → W.cell? ⟨b, o + i * 5 + j, none⟩ = some u := fun i hi => by
      obtain ⟨es, e1, e2, e3⟩ := h5 i hi
      rw [hsz] at e1 e3
      obtain ⟨_, f1⟩ := In.struct Try.underlying42 e2
      have s1 : Try.prog.cellsOf 3 = 1 := by kernel_rfl
      have s2 : Try.prog.cellsOf 27 = 3 := by kernel_rfl
      have s3 : Try.prog.cellsOf 25 = 1 := by kernel_rfl
      have k0 : In enc Try.prog W 3 ((es.drop 0).take (Try.prog.cellsOf 3)) := f1 0 _ rfl
      have p0 : In enc Try.prog W 27 ((es.drop 1).take (Try.prog.cellsOf 27)) := f1 1 _ rfl
      have n0 : In enc Try.prog W 3 ((es.drop 4).take (Try.prog.cellsOf 3)) := f1 2 _ rfl
      rw [s1] at k0 n0
      rw [s2] at p0
      obtain ⟨_, f2⟩ := In.struct Try.underlying27 p0
      have g0 : In enc Try.prog W 3 ((((es.drop 1).take 3).drop 0).take (Try.prog.cellsOf 3)) := f2 0 _ rfl
      have g1 : In enc Try.prog W 3 ((((es.drop 1).take 3).drop 1).take (Try.prog.cellsOf 3)) := f2 1 _ rfl
      have g2 : In enc Try.prog W 25 ((((es.drop 1).take 3).drop 2).take (Try.prog.cellsOf 25)) := f2 2 _ rfl
      rw [s1] at g0 g1
      rw [s3] at g2
      obtain ⟨k, k1, _⟩ := In.int Try.underlying3 k0
      obtain ⟨n, n1, _⟩ := In.int Try.underlying3 n0
      obtain ⟨f, q1, _⟩ := In.int Try.underlying3 g0
      obtain ⟨t, q2, _⟩ := In.int Try.underlying3 g1
      obtain ⟨A, m, c, bs, q3, q4, q5, q6, q7⟩ := In.bytes Try.underlying25 Try.underlying5 (by kernel_rfl) g2
      refine ⟨⟨k, f, t, A, m, c, n, bs⟩, ⟨q4, q5, q6, q7⟩, ?_⟩
      have hes : es = [.int .i64 k, .int .i64 f, .int .i64 t, .slice A m c, .int .i64 n] := by
        match es, e1 with
        | [x0, x1, x2, x3, x4], _ =>
          simp at k1 n1 q1 q2 q3
          simp [k1, n1, q1, q2, q3]
      rw [hes] at e3
      exact e3
    obtain ⟨g, hg⟩ := choose_below key
    exact ⟨_, len, cap, g, rfl, by omega, fun _ => ⟨b, o, rfl, hg⟩⟩
theorem long_ok {A : Option Addr} {len cap : Nat} {g : Nat → AcD} {W : World} {r : List Ent} (hl : len ≤ maxLen) (hA : 0 < len → ∃ b o, A = some ⟨b, o, none⟩ ∧ ActsAt W b o len g) :
    Tr Pg 15 #[.slice A len cap] W r fun v l' => (v = .bool true ∨ v = .bool false) ∧ l' = r := by
  refine Tr.of_code (args := [_]) Try.func15 rfl Try.ntmps15 (Nat.le_of_ble_eq_true rfl) ?_
  repeat (first | refine JC.seq ?_ | refine JL.nil ?_ | refine RN.seq ?_ | refine RN.blk ?_ | refine JC.region ?_ | refine JC.skip ?_ | refine JC.block ?_ | refine JC.exit ?_ | refine JC.cond_t rfl ?_ | refine JC.cond_f rfl ?_ | refine JL.omit rfl ?_ | refine JL.pure rfl (y_move (by conv => lhs; whnf)) ?_ | refine JL.pure rfl (y_assign (by conv => lhs; whnf)) ?_ | refine JL.pure rfl (y_extract rfl rfl) ?_ | refine JL.pure rfl (y_fieldAddr rfl) ?_ | refine JL.pure rfl (y_nilCheck rfl) ?_ | refine JL.pure rfl (y_not rfl) ?_ | refine JL.pure rfl (y_pick_t rfl (by conv => lhs; whnf)) ?_ | refine JL.pure rfl (y_pick_f rfl (by conv => lhs; whnf)) ?_ | refine JL.pure rfl (y_eqlNil rfl rfl rfl) ?_ | refine JL.pure rfl (y_neqNil rfl rfl rfl) ?_ | refine JL.pure rfl (y_eqlSNil rfl rfl rfl) ?_ | refine JL.pure rfl (y_len rfl) ?_ | refine JL.pure rfl (y_lenS rfl) ?_ | refine JL.pure rfl (y_makeFunc rfl) ?_ | refine JL.pure rfl (y_lss rfl rfl (decide_eq_true (by omega))) ?_ | refine JL.pure rfl (y_lss rfl rfl (decide_eq_false (by omega))) ?_ | refine JL.pure rfl (y_leq rfl rfl (decide_eq_true (by omega))) ?_ | refine JL.pure rfl (y_leq rfl rfl (decide_eq_false (by omega))) ?_ | refine JL.pure rfl (y_gtr rfl rfl (decide_eq_true (by omega))) ?_ | refine JL.pure rfl (y_gtr rfl rfl (decide_eq_false (by omega))) ?_ | refine JL.pure rfl (y_geq rfl rfl (decide_eq_true (by omega))) ?_ | refine JL.pure rfl (y_geq rfl rfl (decide_eq_false (by omega))) ?_ | refine JL.pure rfl (y_eql rfl rfl (decide_eq_true (by omega))) ?_ | refine JL.pure rfl (y_eql rfl rfl (decide_eq_false (by omega))) ?_ | refine JL.pure rfl (y_neq rfl rfl (r := false) (decide_eq_true (by omega))) ?_ | refine JL.pure rfl (y_neq rfl rfl (r := true) (decide_eq_false (by omega))) ?_ | refine JL.pure rfl (y_add rfl rfl (wrap_add (by omega) (by omega))) ?_ | refine JL.pure rfl (y_sub rfl rfl (wrap_add (by omega) (by omega))) ?_ | refine JL.pure rfl (y_index rfl rfl (by omega)) ?_ | refine JL.pure rfl (y_index (j := 0) rfl rfl (by omega)) ?_ | refine JL.was rfl (w_load1 rfl (by assumption)) ?_)
  refine JC.loop (fun m f l => ∃ k, k + m = len ∧ ∃ s : Int, FrOk f [(0, .slice A len cap), (3, .int .i64 s), (4, .int .i64 (k : Int))] ∧ l = r) len ?_ ?_
  · exact ⟨0, by omega, 0, ⟨rfl, rfl, rfl, trivial⟩, rfl⟩
  rintro m f l ⟨k, hm, s, hf, rfl⟩
  refine JC.frame _ hf fun f' => ?_
  by_cases hk : k < len
  · by_cases hk8 : k < 80
    · obtain ⟨b, o, rfl, hat⟩ := hA (by omega)
      have hd : W.cell? ⟨b, o + k * 5 + 1 + 2, none⟩ = some (.slice (g k).A (g k).m (g k).c) := (hat k hk).2 3 _ rfl
      repeat (first | refine JC.seq ?_ | refine JL.nil ?_ | refine RN.seq ?_ | refine RN.blk ?_ | refine JC.region ?_ | refine JC.skip ?_ | refine JC.block ?_ | refine JC.exit ?_ | refine JC.cond_t rfl ?_ | refine JC.cond_f rfl ?_ | refine JL.omit rfl ?_ | refine JL.pure rfl (y_add rfl rfl rfl) ?_ | refine JL.pure rfl (y_move (by conv => lhs; whnf)) ?_ | refine JL.pure rfl (y_assign (by conv => lhs; whnf)) ?_ | refine JL.pure rfl (y_extract rfl rfl) ?_ | refine JL.pure rfl (y_fieldAddr rfl) ?_ | refine JL.pure rfl (y_nilCheck rfl) ?_ | refine JL.pure rfl (y_not rfl) ?_ | refine JL.pure rfl (y_pick_t rfl (by conv => lhs; whnf)) ?_ | refine JL.pure rfl (y_pick_f rfl (by conv => lhs; whnf)) ?_ | refine JL.pure rfl (y_eqlNil rfl rfl rfl) ?_ | refine JL.pure rfl (y_neqNil rfl rfl rfl) ?_ | refine JL.pure rfl (y_eqlSNil rfl rfl rfl) ?_ | refine JL.pure rfl (y_len rfl) ?_ | refine JL.pure rfl (y_lenS rfl) ?_ | refine JL.pure rfl (y_makeFunc rfl) ?_ | refine JL.pure rfl (y_lss rfl rfl (decide_eq_true (by omega))) ?_ | refine JL.pure rfl (y_lss rfl rfl (decide_eq_false (by omega))) ?_ | refine JL.pure rfl (y_leq rfl rfl (decide_eq_true (by omega))) ?_ | refine JL.pure rfl (y_leq rfl rfl (decide_eq_false (by omega))) ?_ | refine JL.pure rfl (y_gtr rfl rfl (decide_eq_true (by omega))) ?_ | refine JL.pure rfl (y_gtr rfl rfl (decide_eq_false (by omega))) ?_ | refine JL.pure rfl (y_geq rfl rfl (decide_eq_true (by omega))) ?_ | refine JL.pure rfl (y_geq rfl rfl (decide_eq_false (by omega))) ?_ | refine JL.pure rfl (y_eql rfl rfl (decide_eq_true (by omega))) ?_ | refine JL.pure rfl (y_eql rfl rfl (decide_eq_false (by omega))) ?_ | refine JL.pure rfl (y_neq rfl rfl (r := false) (decide_eq_true (by omega))) ?_ | refine JL.pure rfl (y_neq rfl rfl (r := true) (decide_eq_false (by omega))) ?_ | refine JL.pure rfl (y_add rfl rfl (wrap_add (by omega) (by omega))) ?_ | refine JL.pure rfl (y_sub rfl rfl (wrap_add (by omega) (by omega))) ?_ | refine JL.pure rfl (y_index rfl rfl (by omega)) ?_ | refine JL.pure rfl (y_index (j := 0) rfl rfl (by omega)) ?_ | refine JL.was rfl (w_load1 rfl (by assumption)) ?_)
      generalize IntKind.i64.wrap (IntKind.i64.wrap (s + 1) + ((g k).m : Int)) = s'
      by_cases hbig : 20000 < s'
      · repeat (first | refine JC.seq ?_ | refine JL.nil ?_ | refine RN.seq ?_ | refine RN.blk ?_ | refine JC.region ?_ | refine JC.skip ?_ | refine JC.block ?_ | refine JC.exit ?_ | refine JC.cond_t rfl ?_ | refine JC.cond_f rfl ?_ | refine JL.omit rfl ?_ | refine JL.pure rfl (y_move (by conv => lhs; whnf)) ?_ | refine JL.pure rfl (y_assign (by conv => lhs; whnf)) ?_ | refine JL.pure rfl (y_extract rfl rfl) ?_ | refine JL.pure rfl (y_fieldAddr rfl) ?_ | refine JL.pure rfl (y_nilCheck rfl) ?_ | refine JL.pure rfl (y_not rfl) ?_ | refine JL.pure rfl (y_pick_t rfl (by conv => lhs; whnf)) ?_ | refine JL.pure rfl (y_pick_f rfl (by conv => lhs; whnf)) ?_ | refine JL.pure rfl (y_eqlNil rfl rfl rfl) ?_ | refine JL.pure rfl (y_neqNil rfl rfl rfl) ?_ | refine JL.pure rfl (y_eqlSNil rfl rfl rfl) ?_ | refine JL.pure rfl (y_len rfl) ?_ | refine JL.pure rfl (y_lenS rfl) ?_ | refine JL.pure rfl (y_makeFunc rfl) ?_ | refine JL.pure rfl (y_lss rfl rfl (decide_eq_true (by omega))) ?_ | refine JL.pure rfl (y_lss rfl rfl (decide_eq_false (by omega))) ?_ | refine JL.pure rfl (y_leq rfl rfl (decide_eq_true (by omega))) ?_ | refine JL.pure rfl (y_leq rfl rfl (decide_eq_false (by omega))) ?_ | refine JL.pure rfl (y_gtr rfl rfl (decide_eq_true (by omega))) ?_ | refine JL.pure rfl (y_gtr rfl rfl (decide_eq_false (by omega))) ?_ | refine JL.pure rfl (y_geq rfl rfl (decide_eq_true (by omega))) ?_ | refine JL.pure rfl (y_geq rfl rfl (decide_eq_false (by omega))) ?_ | refine JL.pure rfl (y_eql rfl rfl (decide_eq_true (by omega))) ?_ | refine JL.pure rfl (y_eql rfl rfl (decide_eq_false (by omega))) ?_ | refine JL.pure rfl (y_neq rfl rfl (r := false) (decide_eq_true (by omega))) ?_ | refine JL.pure rfl (y_neq rfl rfl (r := true) (decide_eq_false (by omega))) ?_ | refine JL.pure rfl (y_add rfl rfl (wrap_add (by omega) (by omega))) ?_ | refine JL.pure rfl (y_sub rfl rfl (wrap_add (by omega) (by omega))) ?_ | refine JL.pure rfl (y_index rfl rfl (by omega)) ?_ | refine JL.pure rfl (y_index (j := 0) rfl rfl (by omega)) ?_ | refine JL.was rfl (w_load1 rfl (by assumption)) ?_)
        exact JC.ret (RT.one rfl rfl (by conv => lhs; whnf) ⟨.inl rfl, rfl⟩)
      · repeat (first | refine JC.seq ?_ | refine JL.nil ?_ | refine RN.seq ?_ | refine RN.blk ?_ | refine JC.region ?_ | refine JC.skip ?_ | refine JC.block ?_ | refine JC.exit ?_ | refine JC.cond_t rfl ?_ | refine JC.cond_f rfl ?_ | refine JL.omit rfl ?_ | refine JL.pure rfl (y_move (by conv => lhs; whnf)) ?_ | refine JL.pure rfl (y_assign (by conv => lhs; whnf)) ?_ | refine JL.pure rfl (y_extract rfl rfl) ?_ | refine JL.pure rfl (y_fieldAddr rfl) ?_ | refine JL.pure rfl (y_nilCheck rfl) ?_ | refine JL.pure rfl (y_not rfl) ?_ | refine JL.pure rfl (y_pick_t rfl (by conv => lhs; whnf)) ?_ | refine JL.pure rfl (y_pick_f rfl (by conv => lhs; whnf)) ?_ | refine JL.pure rfl (y_eqlNil rfl rfl rfl) ?_ | refine JL.pure rfl (y_neqNil rfl rfl rfl) ?_ | refine JL.pure rfl (y_eqlSNil rfl rfl rfl) ?_ | refine JL.pure rfl (y_len rfl) ?_ | refine JL.pure rfl (y_lenS rfl) ?_ | refine JL.pure rfl (y_makeFunc rfl) ?_ | refine JL.pure rfl (y_lss rfl rfl (decide_eq_true (by omega))) ?_ | refine JL.pure rfl (y_lss rfl rfl (decide_eq_false (by omega))) ?_ | refine JL.pure rfl (y_leq rfl rfl (decide_eq_true (by omega))) ?_ | refine JL.pure rfl (y_leq rfl rfl (decide_eq_false (by omega))) ?_ | refine JL.pure rfl (y_gtr rfl rfl (decide_eq_true (by omega))) ?_ | refine JL.pure rfl (y_gtr rfl rfl (decide_eq_false (by omega))) ?_ | refine JL.pure rfl (y_geq rfl rfl (decide_eq_true (by omega))) ?_ | refine JL.pure rfl (y_geq rfl rfl (decide_eq_false (by omega))) ?_ | refine JL.pure rfl (y_eql rfl rfl (decide_eq_true (by omega))) ?_ | refine JL.pure rfl (y_eql rfl rfl (decide_eq_false (by omega))) ?_ | refine JL.pure rfl (y_neq rfl rfl (r := false) (decide_eq_true (by omega))) ?_ | refine JL.pure rfl (y_neq rfl rfl (r := true) (decide_eq_false (by omega))) ?_ | refine JL.pure rfl (y_add rfl rfl (wrap_add (by omega) (by omega))) ?_ | refine JL.pure rfl (y_sub rfl rfl (wrap_add (by omega) (by omega))) ?_ | refine JL.pure rfl (y_index rfl rfl (by omega)) ?_ | refine JL.pure rfl (y_index (j := 0) rfl rfl (by omega)) ?_ | refine JL.was rfl (w_load1 rfl (by assumption)) ?_)
        exact RN.loop (m' := m - 1) (by omega) ⟨k + 1, by omega, s', ⟨rfl, rfl, rfl, trivial⟩, rfl⟩
    · repeat (first | refine JC.seq ?_ | refine JL.nil ?_ | refine RN.seq ?_ | refine RN.blk ?_ | refine JC.region ?_ | refine JC.skip ?_ | refine JC.block ?_ | refine JC.exit ?_ | refine JC.cond_t rfl ?_ | refine JC.cond_f rfl ?_ | refine JL.omit rfl ?_ | refine JL.pure rfl (y_move (by conv => lhs; whnf)) ?_ | refine JL.pure rfl (y_assign (by conv => lhs; whnf)) ?_ | refine JL.pure rfl (y_extract rfl rfl) ?_ | refine JL.pure rfl (y_fieldAddr rfl) ?_ | refine JL.pure rfl (y_nilCheck rfl) ?_ | refine JL.pure rfl (y_not rfl) ?_ | refine JL.pure rfl (y_pick_t rfl (by conv => lhs; whnf)) ?_ | refine JL.pure rfl (y_pick_f rfl (by conv => lhs; whnf)) ?_ | refine JL.pure rfl (y_eqlNil rfl rfl rfl) ?_ | refine JL.pure rfl (y_neqNil rfl rfl rfl) ?_ | refine JL.pure rfl (y_eqlSNil rfl rfl rfl) ?_ | refine JL.pure rfl (y_len rfl) ?_ | refine JL.pure rfl (y_lenS rfl) ?_ | refine JL.pure rfl (y_makeFunc rfl) ?_ | refine JL.pure rfl (y_lss rfl rfl (decide_eq_true (by omega))) ?_ | refine JL.pure rfl (y_lss rfl rfl (decide_eq_false (by omega))) ?_ | refine JL.pure rfl (y_leq rfl rfl (decide_eq_true (by omega))) ?_ | refine JL.pure rfl (y_leq rfl rfl (decide_eq_false (by omega))) ?_ | refine JL.pure rfl (y_gtr rfl rfl (decide_eq_true (by omega))) ?_ | refine JL.pure rfl (y_gtr rfl rfl (decide_eq_false (by omega))) ?_ | refine JL.pure rfl (y_geq rfl rfl (decide_eq_true (by omega))) ?_ | refine JL.pure rfl (y_geq rfl rfl (decide_eq_false (by omega))) ?_ | refine JL.pure rfl (y_eql rfl rfl (decide_eq_true (by omega))) ?_ | refine JL.pure rfl (y_eql rfl rfl (decide_eq_false (by omega))) ?_ | refine JL.pure rfl (y_neq rfl rfl (r := false) (decide_eq_true (by omega))) ?_ | refine JL.pure rfl (y_neq rfl rfl (r := true) (decide_eq_false (by omega))) ?_ | refine JL.pure rfl (y_add rfl rfl (wrap_add (by omega) (by omega))) ?_ | refine JL.pure rfl (y_sub rfl rfl (wrap_add (by omega) (by omega))) ?_ | refine JL.pure rfl (y_index rfl rfl (by omega)) ?_ | refine JL.pure rfl (y_index (j := 0) rfl rfl (by omega)) ?_ | refine JL.was rfl (w_load1 rfl (by assumption)) ?_)
      exact JC.ret (RT.one rfl rfl (by conv => lhs; whnf) ⟨.inr rfl, rfl⟩)
  · repeat (first | refine JC.seq ?_ | refine JL.nil ?_ | refine RN.seq ?_ | refine RN.blk ?_ | refine JC.region ?_ | refine JC.skip ?_ | refine JC.block ?_ | refine JC.exit ?_ | refine JC.cond_t rfl ?_ | refine JC.cond_f rfl ?_ | refine JL.omit rfl ?_ | refine JL.pure rfl (y_move (by conv => lhs; whnf)) ?_ | refine JL.pure rfl (y_assign (by conv => lhs; whnf)) ?_ | refine JL.pure rfl (y_extract rfl rfl) ?_ | refine JL.pure rfl (y_fieldAddr rfl) ?_ | refine JL.pure rfl (y_nilCheck rfl) ?_ | refine JL.pure rfl (y_not rfl) ?_ | refine JL.pure rfl (y_pick_t rfl (by conv => lhs; whnf)) ?_ | refine JL.pure rfl (y_pick_f rfl (by conv => lhs; whnf)) ?_ | refine JL.pure rfl (y_eqlNil rfl rfl rfl) ?_ | refine JL.pure rfl (y_neqNil rfl rfl rfl) ?_ | refine JL.pure rfl (y_eqlSNil rfl rfl rfl) ?_ | refine JL.pure rfl (y_len rfl) ?_ | refine JL.pure rfl (y_lenS rfl) ?_ | refine JL.pure rfl (y_makeFunc rfl) ?_ | refine JL.pure rfl (y_lss rfl rfl (decide_eq_true (by omega))) ?_ | refine JL.pure rfl (y_lss rfl rfl (decide_eq_false (by omega))) ?_ | refine JL.pure rfl (y_leq rfl rfl (decide_eq_true (by omega))) ?_ | refine JL.pure rfl (y_leq rfl rfl (decide_eq_false (by omega))) ?_ | refine JL.pure rfl (y_gtr rfl rfl (decide_eq_true (by omega))) ?_ | refine JL.pure rfl (y_gtr rfl rfl (decide_eq_false (by omega))) ?_ | refine JL.pure rfl (y_geq rfl rfl (decide_eq_true (by omega))) ?_ | refine JL.pure rfl (y_geq rfl rfl (decide_eq_false (by omega))) ?_ | refine JL.pure rfl (y_eql rfl rfl (decide_eq_true (by omega))) ?_ | refine JL.pure rfl (y_eql rfl rfl (decide_eq_false (by omega))) ?_ | refine JL.pure rfl (y_neq rfl rfl (r := false) (decide_eq_true (by omega))) ?_ | refine JL.pure rfl (y_neq rfl rfl (r := true) (decide_eq_false (by omega))) ?_ | refine JL.pure rfl (y_add rfl rfl (wrap_add (by omega) (by omega))) ?_ | refine JL.pure rfl (y_sub rfl rfl (wrap_add (by omega) (by omega))) ?_ | refine JL.pure rfl (y_index rfl rfl (by omega)) ?_ | refine JL.pure rfl (y_index (j := 0) rfl rfl (by omega)) ?_ | refine JL.was rfl (w_load1 rfl (by assumption)) ?_)
    exact JC.ret (RT.one rfl rfl (by conv => lhs; whnf) ⟨.inr rfl, rfl⟩)
end Go.Proofs.Ytdikaepengiliaa
