import Derived.Test.YtjobamodncaanaaFacts
import Derived.Test.YtjobamodncaanaaLgR
import Derived.Test.YtjobamodncaanaaLgW
set_option linter.unusedVariables false
set_option linter.unusedSimpArgs false
namespace Go.Proofs.Ytjobamodncaanaa
open Go.RowKit Go.Lg
attribute [local irreducible] JC JL JD RN RT Eff Yld YldIf Tr
/-- x turned to the left. -/
def rot (x : BitVec 64) (n : Nat) : BitVec 64 := (x <<< n) ||| (x >>> (64 - n))
theorem Rot_ok (x : BitVec 64) (n : Nat) (hb : bits .and .u64 (n : Int) 63 = (n : Int)) (hn : n ≤ 64) (W : World) (l : List Ent) : Tr Pg 20 #[w64 x, .int .i64 (n : Int)] W l fun v l' => v = w64 (rot x n) ∧ l' = l := by
  refine Tr.of_code (args := [_, _]) Try.func20 rfl Try.ntmps20 (Nat.le_of_ble_eq_true rfl) ?_
  have h1 : IntKind.u64.wrap (n : Int) = (n : Int) := wrap_lt rfl (Nat.lt_of_le_of_lt hn (by decide))
  have h2 : IntKind.u64.wrap ((64 : Int) - (n : Int)) = ((64 - n : Nat) : Int) := by
    rw [show (64 : Int) - (n : Int) = ((64 - n : Nat) : Int) from by omega]
    exact wrap_lt rfl (Nat.lt_of_le_of_lt (Nat.sub_le _ _) (by decide))
  repeat (first | refine JC.seq ?_ | refine JL.nil ?_ | refine RN.seq ?_ | refine RN.blk ?_ | refine JC.region ?_ | refine JC.skip ?_ | refine JC.block ?_ | refine JC.exit ?_ | refine JC.cond_t rfl ?_ | refine JC.cond_f rfl ?_ | refine JL.omit rfl ?_ | refine JL.pure rfl (y_conv rfl h1) ?_ | refine JL.pure rfl (y_andC rfl rfl hb) ?_ | refine JL.pure rfl (y_shl64 rfl rfl hn) ?_ | refine JL.pure rfl (y_sub rfl rfl h2) ?_ | refine JL.pure rfl (y_shr64 rfl rfl (Nat.sub_le _ _)) ?_ | refine JL.pure rfl (y_or64 rfl rfl) ?_ | refine JL.pure rfl (y_move (by conv => lhs; whnf)) ?_ | refine JL.pure rfl (y_assign (by conv => lhs; whnf)) ?_ | refine JL.pure rfl (y_extract rfl rfl) ?_ | refine JL.pure rfl (y_fieldAddr rfl) ?_ | refine JL.pure rfl (y_nilCheck rfl) ?_ | refine JL.pure rfl (y_not rfl) ?_ | refine JL.pure rfl (y_pick_t rfl (by conv => lhs; whnf)) ?_ | refine JL.pure rfl (y_pick_f rfl (by conv => lhs; whnf)) ?_ | refine JL.pure rfl (y_eqlNil rfl rfl rfl) ?_ | refine JL.pure rfl (y_neqNil rfl rfl rfl) ?_ | refine JL.pure rfl (y_eqlSNil rfl rfl rfl) ?_ | refine JL.pure rfl (y_len rfl) ?_ | refine JL.pure rfl (y_lenS rfl) ?_ | refine JL.pure rfl (y_makeFunc rfl) ?_ | refine JL.pure rfl (y_lss rfl rfl (decide_eq_true (by omega))) ?_ | refine JL.pure rfl (y_lss rfl rfl (decide_eq_false (by omega))) ?_ | refine JL.pure rfl (y_leq rfl rfl (decide_eq_true (by omega))) ?_ | refine JL.pure rfl (y_leq rfl rfl (decide_eq_false (by omega))) ?_ | refine JL.pure rfl (y_gtr rfl rfl (decide_eq_true (by omega))) ?_ | refine JL.pure rfl (y_gtr rfl rfl (decide_eq_false (by omega))) ?_ | refine JL.pure rfl (y_geq rfl rfl (decide_eq_true (by omega))) ?_ | refine JL.pure rfl (y_geq rfl rfl (decide_eq_false (by omega))) ?_ | refine JL.pure rfl (y_eql rfl rfl (decide_eq_true (by omega))) ?_ | refine JL.pure rfl (y_eql rfl rfl (decide_eq_false (by omega))) ?_ | refine JL.pure rfl (y_neq rfl rfl (r := false) (decide_eq_true (by omega))) ?_ | refine JL.pure rfl (y_neq rfl rfl (r := true) (decide_eq_false (by omega))) ?_ | refine JL.pure rfl (y_add rfl rfl (wrap_add (by omega) (by omega))) ?_ | refine JL.pure rfl (y_sub rfl rfl (wrap_add (by omega) (by omega))) ?_ | refine JL.pure rfl (y_index rfl rfl (by omega)) ?_ | refine JL.pure rfl (y_index (j := 0) rfl rfl (by omega)) ?_ | refine JL.was rfl (w_load1 rfl (by assumption)) ?_)
  exact JC.ret (RT.one rfl rfl rfl ⟨rfl, rfl⟩)
theorem left_ok (x : BitVec 64) (n : Nat) (hn : n ≤ 64) (W : World) (l : List Ent) : Tr Pg 21 #[w64 x, .int .u64 (n : Int)] W l fun v l' => v = w64 (rot x n) ∧ l' = l := by
  refine Tr.of_code (args := [_, _]) Try.func21 rfl Try.ntmps21 (Nat.le_of_ble_eq_true rfl) ?_
  have h2 : IntKind.u64.wrap ((64 : Int) - (n : Int)) = ((64 - n : Nat) : Int) := by
    rw [show (64 : Int) - (n : Int) = ((64 - n : Nat) : Int) from by omega]
    exact wrap_lt rfl (Nat.lt_of_le_of_lt (Nat.sub_le _ _) (by decide))
  repeat (first | refine JC.seq ?_ | refine JL.nil ?_ | refine RN.seq ?_ | refine RN.blk ?_ | refine JC.region ?_ | refine JC.skip ?_ | refine JC.block ?_ | refine JC.exit ?_ | refine JC.cond_t rfl ?_ | refine JC.cond_f rfl ?_ | refine JL.omit rfl ?_ | refine JL.pure rfl (y_shl64 rfl rfl hn) ?_ | refine JL.pure rfl (y_sub rfl rfl h2) ?_ | refine JL.pure rfl (y_shr64 rfl rfl (Nat.sub_le _ _)) ?_ | refine JL.pure rfl (y_or64 rfl rfl) ?_ | refine JL.pure rfl (y_move (by conv => lhs; whnf)) ?_ | refine JL.pure rfl (y_assign (by conv => lhs; whnf)) ?_ | refine JL.pure rfl (y_extract rfl rfl) ?_ | refine JL.pure rfl (y_fieldAddr rfl) ?_ | refine JL.pure rfl (y_nilCheck rfl) ?_ | refine JL.pure rfl (y_not rfl) ?_ | refine JL.pure rfl (y_pick_t rfl (by conv => lhs; whnf)) ?_ | refine JL.pure rfl (y_pick_f rfl (by conv => lhs; whnf)) ?_ | refine JL.pure rfl (y_eqlNil rfl rfl rfl) ?_ | refine JL.pure rfl (y_neqNil rfl rfl rfl) ?_ | refine JL.pure rfl (y_eqlSNil rfl rfl rfl) ?_ | refine JL.pure rfl (y_len rfl) ?_ | refine JL.pure rfl (y_lenS rfl) ?_ | refine JL.pure rfl (y_makeFunc rfl) ?_ | refine JL.pure rfl (y_lss rfl rfl (decide_eq_true (by omega))) ?_ | refine JL.pure rfl (y_lss rfl rfl (decide_eq_false (by omega))) ?_ | refine JL.pure rfl (y_leq rfl rfl (decide_eq_true (by omega))) ?_ | refine JL.pure rfl (y_leq rfl rfl (decide_eq_false (by omega))) ?_ | refine JL.pure rfl (y_gtr rfl rfl (decide_eq_true (by omega))) ?_ | refine JL.pure rfl (y_gtr rfl rfl (decide_eq_false (by omega))) ?_ | refine JL.pure rfl (y_geq rfl rfl (decide_eq_true (by omega))) ?_ | refine JL.pure rfl (y_geq rfl rfl (decide_eq_false (by omega))) ?_ | refine JL.pure rfl (y_eql rfl rfl (decide_eq_true (by omega))) ?_ | refine JL.pure rfl (y_eql rfl rfl (decide_eq_false (by omega))) ?_ | refine JL.pure rfl (y_neq rfl rfl (r := false) (decide_eq_true (by omega))) ?_ | refine JL.pure rfl (y_neq rfl rfl (r := true) (decide_eq_false (by omega))) ?_ | refine JL.pure rfl (y_add rfl rfl (wrap_add (by omega) (by omega))) ?_ | refine JL.pure rfl (y_sub rfl rfl (wrap_add (by omega) (by omega))) ?_ | refine JL.pure rfl (y_index rfl rfl (by omega)) ?_ | refine JL.pure rfl (y_index (j := 0) rfl rfl (by omega)) ?_ | refine JL.was rfl (w_load1 rfl (by assumption)) ?_)
  exact JC.ret (RT.one rfl rfl rfl ⟨rfl, rfl⟩)
/-- Four words. -/
structure S4 where
  a : BitVec 64
  b : BitVec 64
  c : BitVec 64
  d : BitVec 64
def S4.cells (s : S4) : List Value := [w64 s.a, w64 s.b, w64 s.c, w64 s.d]
def S4.round (s : S4) : S4 :=
  let a1 := s.a + s.b
  let b1 := rot s.b 13 ^^^ a1
  let a2 := rot a1 32
  let c1 := s.c + s.d
  let d1 := rot s.d 16 ^^^ c1
  let a3 := a2 + d1
  let d2 := rot d1 21 ^^^ a3
  let c2 := c1 + b1
  let b2 := rot b1 17 ^^^ c2
  ⟨a3, b2, rot c2 32, d2⟩
def S4.rounds (s : S4) : Nat → S4
  | 0 => s
  | n + 1 => (S4.rounds s n).round
def S4.take (s : S4) (m : BitVec 64) : S4 :=
  let t := S4.round (S4.round ⟨s.a, s.b, s.c, s.d ^^^ m⟩)
  ⟨t.a ^^^ m, t.b, t.c, t.d⟩
def ptr (b : Nat) : Value := .pointer (some ⟨b, 0, none⟩)
end Go.Proofs.Ytjobamodncaanaa
