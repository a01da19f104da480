import Derived.Test.YtdikaepengiliaaSC
set_option linter.unusedVariables false
set_option linter.unusedSimpArgs false
namespace Go.Proofs.Ytdikaepengiliaa
open Go.RowKit Go.Lg
attribute [local irreducible] JC JL JD RN RT Eff Yld YldIf Tr
/-- A packet, as the world sees it. -/
structure Pkt where
  f : Int
  t : Int
  bs : List UInt8
/-- A packet as it lies: its three cells. -/
structure Pk where
  f : Int
  t : Int
  d : Value
  bs : List UInt8
def Pk.abs (p : Pk) : Pkt := ⟨p.f, p.t, p.bs⟩
def Pk.cells (p : Pk) : List Value := [.int .i64 p.f, .int .i64 p.t, p.d]
def pcs (l : List Pk) : List Value := l.flatMap Pk.cells
theorem pcs_len : ∀ l : List Pk, (pcs l).length = l.length * 3
  | [] => rfl
  | p :: l => by
    have := pcs_len l
    simp only [pcs, List.flatMap_cons, List.length_append, List.length_cons] at this ⊢
    rw [this]; simp only [Pk.cells, List.length_cons, List.length_nil]; omega
theorem pcs_append (l m : List Pk) : pcs (l ++ m) = pcs l ++ pcs m := by simp [pcs]
theorem pcs_get : ∀ (l : List Pk) (i : Nat) (p : Pk), l[i]? = some p → ((pcs l).drop (i * 3)).take 3 = p.cells
  | [], _, _, h => by simp at h
  | q :: l, 0, p, h => by
    obtain rfl : q = p := by simpa using h
    simp [pcs, Pk.cells]
  | q :: l, i + 1, p, h => by
    have := pcs_get l i p (by simpa using h)
    rw [show (i + 1) * 3 = i * 3 + 3 from by omega]
    simpa [pcs, Pk.cells] using this
/-- The packet's bytes lie where its slice says. -/
def Dv (W : World) (r : List Ent) (d : Value) (bs : List UInt8) : Prop := ∃ A c, d = .slice A bs.length c ∧ bs.length ≤ 70368744177664 ∧ (A = none → bs.length = 0 ∧ c = 0) ∧ Src W r A (bs.map bv)
theorem Dv.mono {W : World} {r r' : List Ent} {d : Value} {bs : List UInt8} (h : Dv W r d bs) (hr : ∀ e ∈ r, e ∈ r') : Dv W r' d bs := by
  obtain ⟨A, c, h1, h2, h3, h4⟩ := h
  exact ⟨A, c, h1, h2, h3, h4.mono hr⟩
theorem Dv.own {W : World} {le : List Ent} {v : Value} {bs : List UInt8} {e : TypeId} (h : Own e 1 v bs.length (bs.map bv) le) (hm : bs.length ≤ 70368744177664) : Dv W le v bs := by
  obtain ⟨A, c, h1, h2, h3⟩ := h.src (W := W)
  refine ⟨A, c, h1, hm, fun hA => ?_, h2⟩
  subst hA
  rcases h.2 with ⟨q1, q2, _⟩ | ⟨g, cap, q1, _⟩
  · rw [h1] at q1
    injection q1 with _ _ q3
    exact ⟨q2, q3⟩
  · rw [h1] at q1
    injection q1 with q2
    cases q2
/-- net.copied: the same packet, its bytes in a row of its own. -/
theorem copied_ok {p : Pk} {W : World} {r : List Ent} (h : Dv W r p.d p.bs) :
    Tr Pg 22 #[.agg p.cells.toArray] W r fun v l' => ∃ (v' : Value) (le : List Ent), v = .agg (Pk.mk p.f p.t v' p.bs).cells.toArray ∧ Own 5 1 v' p.bs.length (p.bs.map bv) le ∧ l' = le ++ r ∧ (v' = .slice none 0 0 ↔ p.d = .slice none 0 0) := by
  obtain ⟨A, c, h1, h2, h3, h4⟩ := h
  obtain ⟨f, t, d, bs⟩ := p
  simp only at h1 h2 h3 h4
  subst h1
  refine Tr.of_code (args := [_]) Try.func22 rfl Try.ntmps22 (Nat.le_of_ble_eq_true rfl) ?_
  repeat (first | refine JC.seq ?_ | refine JL.nil ?_ | refine RN.seq ?_ | refine RN.blk ?_ | refine JC.region ?_ | refine JC.skip ?_ | refine JC.block ?_ | refine JC.exit ?_ | refine JC.cond_t rfl ?_ | refine JC.cond_f rfl ?_ | refine JL.omit rfl ?_ | refine JL.pure rfl (y_move (by conv => lhs; whnf)) ?_ | refine JL.pure rfl (y_assign (by conv => lhs; whnf)) ?_ | refine JL.pure rfl (y_extract rfl rfl) ?_ | refine JL.pure rfl (y_fieldAddr rfl) ?_ | refine JL.pure rfl (y_nilCheck rfl) ?_ | refine JL.pure rfl (y_not rfl) ?_ | refine JL.pure rfl (y_pick_t rfl (by conv => lhs; whnf)) ?_ | refine JL.pure rfl (y_pick_f rfl (by conv => lhs; whnf)) ?_ | refine JL.pure rfl (y_eqlNil rfl rfl rfl) ?_ | refine JL.pure rfl (y_neqNil rfl rfl rfl) ?_ | refine JL.pure rfl (y_eqlSNil rfl rfl rfl) ?_ | refine JL.pure rfl (y_len rfl) ?_ | refine JL.pure rfl (y_lenS rfl) ?_ | refine JL.pure rfl (y_makeFunc rfl) ?_ | refine JL.pure rfl (y_lss rfl rfl (decide_eq_true (by omega))) ?_ | refine JL.pure rfl (y_lss rfl rfl (decide_eq_false (by omega))) ?_ | refine JL.pure rfl (y_leq rfl rfl (decide_eq_true (by omega))) ?_ | refine JL.pure rfl (y_leq rfl rfl (decide_eq_false (by omega))) ?_ | refine JL.pure rfl (y_gtr rfl rfl (decide_eq_true (by omega))) ?_ | refine JL.pure rfl (y_gtr rfl rfl (decide_eq_false (by omega))) ?_ | refine JL.pure rfl (y_geq rfl rfl (decide_eq_true (by omega))) ?_ | refine JL.pure rfl (y_geq rfl rfl (decide_eq_false (by omega))) ?_ | refine JL.pure rfl (y_eql rfl rfl (decide_eq_true (by omega))) ?_ | refine JL.pure rfl (y_eql rfl rfl (decide_eq_false (by omega))) ?_ | refine JL.pure rfl (y_neq rfl rfl (r := false) (decide_eq_true (by omega))) ?_ | refine JL.pure rfl (y_neq rfl rfl (r := true) (decide_eq_false (by omega))) ?_ | refine JL.pure rfl (y_add rfl rfl (wrap_add (by omega) (by omega))) ?_ | refine JL.pure rfl (y_sub rfl rfl (wrap_add (by omega) (by omega))) ?_ | refine JL.pure rfl (y_index rfl rfl (by omega)) ?_)
  refine JL.step rfl (e_box rfl rfl fun b => ?_)
  refine JL.step rfl (e_alloc fun b2 => ?_)
  repeat (first | refine JC.seq ?_ | refine JL.nil ?_ | refine RN.seq ?_ | refine RN.blk ?_ | refine JC.region ?_ | refine JC.skip ?_ | refine JC.block ?_ | refine JC.exit ?_ | refine JC.cond_t rfl ?_ | refine JC.cond_f rfl ?_ | refine JL.omit rfl ?_ | refine JL.pure rfl (y_move (by conv => lhs; whnf)) ?_ | refine JL.pure rfl (y_assign (by conv => lhs; whnf)) ?_ | refine JL.pure rfl (y_extract rfl rfl) ?_ | refine JL.pure rfl (y_fieldAddr rfl) ?_ | refine JL.pure rfl (y_nilCheck rfl) ?_ | refine JL.pure rfl (y_not rfl) ?_ | refine JL.pure rfl (y_pick_t rfl (by conv => lhs; whnf)) ?_ | refine JL.pure rfl (y_pick_f rfl (by conv => lhs; whnf)) ?_ | refine JL.pure rfl (y_eqlNil rfl rfl rfl) ?_ | refine JL.pure rfl (y_neqNil rfl rfl rfl) ?_ | refine JL.pure rfl (y_eqlSNil rfl rfl rfl) ?_ | refine JL.pure rfl (y_len rfl) ?_ | refine JL.pure rfl (y_lenS rfl) ?_ | refine JL.pure rfl (y_makeFunc rfl) ?_ | refine JL.pure rfl (y_lss rfl rfl (decide_eq_true (by omega))) ?_ | refine JL.pure rfl (y_lss rfl rfl (decide_eq_false (by omega))) ?_ | refine JL.pure rfl (y_leq rfl rfl (decide_eq_true (by omega))) ?_ | refine JL.pure rfl (y_leq rfl rfl (decide_eq_false (by omega))) ?_ | refine JL.pure rfl (y_gtr rfl rfl (decide_eq_true (by omega))) ?_ | refine JL.pure rfl (y_gtr rfl rfl (decide_eq_false (by omega))) ?_ | refine JL.pure rfl (y_geq rfl rfl (decide_eq_true (by omega))) ?_ | refine JL.pure rfl (y_geq rfl rfl (decide_eq_false (by omega))) ?_ | refine JL.pure rfl (y_eql rfl rfl (decide_eq_true (by omega))) ?_ | refine JL.pure rfl (y_eql rfl rfl (decide_eq_false (by omega))) ?_ | refine JL.pure rfl (y_neq rfl rfl (r := false) (decide_eq_true (by omega))) ?_ | refine JL.pure rfl (y_neq rfl rfl (r := true) (decide_eq_false (by omega))) ?_ | refine JL.pure rfl (y_add rfl rfl (wrap_add (by omega) (by omega))) ?_ | refine JL.pure rfl (y_sub rfl rfl (wrap_add (by omega) (by omega))) ?_ | refine JL.pure rfl (y_index rfl rfl (by omega)) ?_ | refine JL.read 0 rfl rfl (r_load1 rfl rfl) ?_ | refine JL.read 0 rfl rfl (r_loadW rfl (by first | rfl | assumption)) ?_ | refine JL.read 0 rfl rfl (r_loadR1 rfl rfl) ?_ | refine JL.read 1 rfl rfl (r_load1 rfl rfl) ?_ | refine JL.read 1 rfl rfl (r_loadW rfl (by first | rfl | assumption)) ?_ | refine JL.read 1 rfl rfl (r_loadR1 rfl rfl) ?_)
  refine JL.step rfl (e_call rfl rfl (Clone_ok rfl h2 (h4.mono fun e he => List.mem_cons_of_mem _ (List.mem_cons_of_mem _ he)) h3) ?_)
  rintro v l' ⟨le, ho, rfl, hn⟩
  obtain ⟨A', c', rfl, -, -⟩ := ho.src (W := W)
  refine JL.perm (l' := _ :: _ :: (le ++ r)) (perm_mid [_, _] le r).symm ?_
  repeat (first | refine JC.seq ?_ | refine JL.nil ?_ | refine RN.seq ?_ | refine RN.blk ?_ | refine JC.region ?_ | refine JC.skip ?_ | refine JC.block ?_ | refine JC.exit ?_ | refine JC.cond_t rfl ?_ | refine JC.cond_f rfl ?_ | refine JL.omit rfl ?_ | refine JL.pure rfl (y_move (by conv => lhs; whnf)) ?_ | refine JL.pure rfl (y_assign (by conv => lhs; whnf)) ?_ | refine JL.pure rfl (y_extract rfl rfl) ?_ | refine JL.pure rfl (y_fieldAddr rfl) ?_ | refine JL.pure rfl (y_nilCheck rfl) ?_ | refine JL.pure rfl (y_not rfl) ?_ | refine JL.pure rfl (y_pick_t rfl (by conv => lhs; whnf)) ?_ | refine JL.pure rfl (y_pick_f rfl (by conv => lhs; whnf)) ?_ | refine JL.pure rfl (y_eqlNil rfl rfl rfl) ?_ | refine JL.pure rfl (y_neqNil rfl rfl rfl) ?_ | refine JL.pure rfl (y_eqlSNil rfl rfl rfl) ?_ | refine JL.pure rfl (y_len rfl) ?_ | refine JL.pure rfl (y_lenS rfl) ?_ | refine JL.pure rfl (y_makeFunc rfl) ?_ | refine JL.pure rfl (y_lss rfl rfl (decide_eq_true (by omega))) ?_ | refine JL.pure rfl (y_lss rfl rfl (decide_eq_false (by omega))) ?_ | refine JL.pure rfl (y_leq rfl rfl (decide_eq_true (by omega))) ?_ | refine JL.pure rfl (y_leq rfl rfl (decide_eq_false (by omega))) ?_ | refine JL.pure rfl (y_gtr rfl rfl (decide_eq_true (by omega))) ?_ | refine JL.pure rfl (y_gtr rfl rfl (decide_eq_false (by omega))) ?_ | refine JL.pure rfl (y_geq rfl rfl (decide_eq_true (by omega))) ?_ | refine JL.pure rfl (y_geq rfl rfl (decide_eq_false (by omega))) ?_ | refine JL.pure rfl (y_eql rfl rfl (decide_eq_true (by omega))) ?_ | refine JL.pure rfl (y_eql rfl rfl (decide_eq_false (by omega))) ?_ | refine JL.pure rfl (y_neq rfl rfl (r := false) (decide_eq_true (by omega))) ?_ | refine JL.pure rfl (y_neq rfl rfl (r := true) (decide_eq_false (by omega))) ?_ | refine JL.pure rfl (y_add rfl rfl (wrap_add (by omega) (by omega))) ?_ | refine JL.pure rfl (y_sub rfl rfl (wrap_add (by omega) (by omega))) ?_ | refine JL.pure rfl (y_index rfl rfl (by omega)) ?_ | refine JL.read 0 rfl rfl (r_load1 rfl rfl) ?_ | refine JL.read 0 rfl rfl (r_loadW rfl (by first | rfl | assumption)) ?_ | refine JL.read 0 rfl rfl (r_loadR1 rfl rfl) ?_ | refine JL.read 1 rfl rfl (r_load1 rfl rfl) ?_ | refine JL.read 1 rfl rfl (r_loadW rfl (by first | rfl | assumption)) ?_ | refine JL.read 1 rfl rfl (r_loadR1 rfl rfl) ?_)
  refine JL.step rfl (e_store 1 rfl rfl rfl rfl rfl rfl (Nat.le_of_ble_eq_true rfl) ?_)
  repeat (first | refine JC.seq ?_ | refine JL.nil ?_ | refine RN.seq ?_ | refine RN.blk ?_ | refine JC.region ?_ | refine JC.skip ?_ | refine JC.block ?_ | refine JC.exit ?_ | refine JC.cond_t rfl ?_ | refine JC.cond_f rfl ?_ | refine JL.omit rfl ?_ | refine JL.pure rfl (y_move (by conv => lhs; whnf)) ?_ | refine JL.pure rfl (y_assign (by conv => lhs; whnf)) ?_ | refine JL.pure rfl (y_extract rfl rfl) ?_ | refine JL.pure rfl (y_fieldAddr rfl) ?_ | refine JL.pure rfl (y_nilCheck rfl) ?_ | refine JL.pure rfl (y_not rfl) ?_ | refine JL.pure rfl (y_pick_t rfl (by conv => lhs; whnf)) ?_ | refine JL.pure rfl (y_pick_f rfl (by conv => lhs; whnf)) ?_ | refine JL.pure rfl (y_eqlNil rfl rfl rfl) ?_ | refine JL.pure rfl (y_neqNil rfl rfl rfl) ?_ | refine JL.pure rfl (y_eqlSNil rfl rfl rfl) ?_ | refine JL.pure rfl (y_len rfl) ?_ | refine JL.pure rfl (y_lenS rfl) ?_ | refine JL.pure rfl (y_makeFunc rfl) ?_ | refine JL.pure rfl (y_lss rfl rfl (decide_eq_true (by omega))) ?_ | refine JL.pure rfl (y_lss rfl rfl (decide_eq_false (by omega))) ?_ | refine JL.pure rfl (y_leq rfl rfl (decide_eq_true (by omega))) ?_ | refine JL.pure rfl (y_leq rfl rfl (decide_eq_false (by omega))) ?_ | refine JL.pure rfl (y_gtr rfl rfl (decide_eq_true (by omega))) ?_ | refine JL.pure rfl (y_gtr rfl rfl (decide_eq_false (by omega))) ?_ | refine JL.pure rfl (y_geq rfl rfl (decide_eq_true (by omega))) ?_ | refine JL.pure rfl (y_geq rfl rfl (decide_eq_false (by omega))) ?_ | refine JL.pure rfl (y_eql rfl rfl (decide_eq_true (by omega))) ?_ | refine JL.pure rfl (y_eql rfl rfl (decide_eq_false (by omega))) ?_ | refine JL.pure rfl (y_neq rfl rfl (r := false) (decide_eq_true (by omega))) ?_ | refine JL.pure rfl (y_neq rfl rfl (r := true) (decide_eq_false (by omega))) ?_ | refine JL.pure rfl (y_add rfl rfl (wrap_add (by omega) (by omega))) ?_ | refine JL.pure rfl (y_sub rfl rfl (wrap_add (by omega) (by omega))) ?_ | refine JL.pure rfl (y_index rfl rfl (by omega)) ?_ | refine JL.read 0 rfl rfl (r_load1 rfl rfl) ?_ | refine JL.read 0 rfl rfl (r_loadW rfl (by first | rfl | assumption)) ?_ | refine JL.read 0 rfl rfl (r_loadR1 rfl rfl) ?_ | refine JL.read 1 rfl rfl (r_load1 rfl rfl) ?_ | refine JL.read 1 rfl rfl (r_loadW rfl (by first | rfl | assumption)) ?_ | refine JL.read 1 rfl rfl (r_loadR1 rfl rfl) ?_)
  refine JL.step rfl (e_store 0 rfl rfl rfl rfl rfl rfl (Nat.le_of_ble_eq_true rfl) ?_)
  repeat (first | refine JC.seq ?_ | refine JL.nil ?_ | refine RN.seq ?_ | refine RN.blk ?_ | refine JC.region ?_ | refine JC.skip ?_ | refine JC.block ?_ | refine JC.exit ?_ | refine JC.cond_t rfl ?_ | refine JC.cond_f rfl ?_ | refine JL.omit rfl ?_ | refine JL.pure rfl (y_move (by conv => lhs; whnf)) ?_ | refine JL.pure rfl (y_assign (by conv => lhs; whnf)) ?_ | refine JL.pure rfl (y_extract rfl rfl) ?_ | refine JL.pure rfl (y_fieldAddr rfl) ?_ | refine JL.pure rfl (y_nilCheck rfl) ?_ | refine JL.pure rfl (y_not rfl) ?_ | refine JL.pure rfl (y_pick_t rfl (by conv => lhs; whnf)) ?_ | refine JL.pure rfl (y_pick_f rfl (by conv => lhs; whnf)) ?_ | refine JL.pure rfl (y_eqlNil rfl rfl rfl) ?_ | refine JL.pure rfl (y_neqNil rfl rfl rfl) ?_ | refine JL.pure rfl (y_eqlSNil rfl rfl rfl) ?_ | refine JL.pure rfl (y_len rfl) ?_ | refine JL.pure rfl (y_lenS rfl) ?_ | refine JL.pure rfl (y_makeFunc rfl) ?_ | refine JL.pure rfl (y_lss rfl rfl (decide_eq_true (by omega))) ?_ | refine JL.pure rfl (y_lss rfl rfl (decide_eq_false (by omega))) ?_ | refine JL.pure rfl (y_leq rfl rfl (decide_eq_true (by omega))) ?_ | refine JL.pure rfl (y_leq rfl rfl (decide_eq_false (by omega))) ?_ | refine JL.pure rfl (y_gtr rfl rfl (decide_eq_true (by omega))) ?_ | refine JL.pure rfl (y_gtr rfl rfl (decide_eq_false (by omega))) ?_ | refine JL.pure rfl (y_geq rfl rfl (decide_eq_true (by omega))) ?_ | refine JL.pure rfl (y_geq rfl rfl (decide_eq_false (by omega))) ?_ | refine JL.pure rfl (y_eql rfl rfl (decide_eq_true (by omega))) ?_ | refine JL.pure rfl (y_eql rfl rfl (decide_eq_false (by omega))) ?_ | refine JL.pure rfl (y_neq rfl rfl (r := false) (decide_eq_true (by omega))) ?_ | refine JL.pure rfl (y_neq rfl rfl (r := true) (decide_eq_false (by omega))) ?_ | refine JL.pure rfl (y_add rfl rfl (wrap_add (by omega) (by omega))) ?_ | refine JL.pure rfl (y_sub rfl rfl (wrap_add (by omega) (by omega))) ?_ | refine JL.pure rfl (y_index rfl rfl (by omega)) ?_ | refine JL.read 0 rfl rfl (r_load1 rfl rfl) ?_ | refine JL.read 0 rfl rfl (r_loadW rfl (by first | rfl | assumption)) ?_ | refine JL.read 0 rfl rfl (r_loadR1 rfl rfl) ?_ | refine JL.read 1 rfl rfl (r_load1 rfl rfl) ?_ | refine JL.read 1 rfl rfl (r_loadW rfl (by first | rfl | assumption)) ?_ | refine JL.read 1 rfl rfl (r_loadR1 rfl rfl) ?_)
  refine JC.ret (ret_cell rfl rfl 0 rfl rfl rfl (List.sublist_append_right [_, _] _) ?_)
  refine ⟨_, le, rfl, ho, rfl, ?_⟩
  rw [hn]
  constructor
  · rintro rfl
    obtain ⟨q1, q2⟩ := h3 rfl
    simp [q1, q2]
  · intro h
    injection h
end Go.Proofs.Ytdikaepengiliaa
