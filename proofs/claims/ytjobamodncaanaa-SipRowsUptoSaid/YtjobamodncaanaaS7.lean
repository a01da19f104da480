import Derived.Test.YtjobamodncaanaaS6
set_option linter.unusedVariables false
set_option linter.unusedSimpArgs false
namespace Go.Proofs.Ytjobamodncaanaa
open Go.RowKit Go.Lg
attribute [local irreducible] JC JL JD RN RT Eff Yld YldIf Tr
/-- One row, in a slice of rows of its own. -/
theorem RowsAt.one {W : World} {r : List Ent} {b tot : Nat} {T : TypeId} {A : Option Addr} {c : Nat} {bs : List UInt8} (hb : (b, isR T tot [.slice A bs.length c]) ∈ r) (hs : Src W r A (bs.map bv)) (hA : A = none → bs.length = 0 ∧ c = 0) : RowsAt W r (some ⟨b, 0, none⟩) [bs] := by
  refine ⟨_, rfl, Src.whole hb, fun i bs' h => ?_⟩
  cases i with
  | zero => cases h; exact ⟨A, c, rfl, hs, hA⟩
  | succ i => cases h
theorem RowsAt.none (W : World) (r : List Ent) (A : Option Addr) : RowsAt W r A [] := ⟨[], rfl, Src.nil .., fun i bs h => by simp at h⟩
theorem sip_known : sipOf (keyOf (cnt 16)) (cnt 15) = 11613035633349379557#64 := by decide +kernel
set_option maxRecDepth 100000 in
theorem known_ok (W : World) (r : List Ent) : Tr Pg 10 #[] W r fun v _ => v = .bool true := by
  refine Tr.of_code (args := []) Try.func10 rfl Try.ntmps10 (Nat.le_of_ble_eq_true rfl) ?_
  repeat (first | refine JC.seq ?_ | refine JL.nil ?_ | refine RN.seq ?_ | refine RN.blk ?_ | refine JC.region ?_ | refine JC.skip ?_ | refine JC.block ?_ | refine JC.exit ?_ | refine JC.cond_t rfl ?_ | refine JC.cond_f rfl ?_ | refine JL.omit rfl ?_ | refine JL.pure rfl (y_move (by conv => lhs; whnf)) ?_ | refine JL.pure rfl (y_assign (by conv => lhs; whnf)) ?_ | refine JL.pure rfl (y_extract rfl rfl) ?_ | refine JL.pure rfl (y_fieldAddr rfl) ?_ | refine JL.pure rfl (y_nilCheck rfl) ?_ | refine JL.pure rfl (y_not rfl) ?_ | refine JL.pure rfl (y_pick_t rfl (by conv => lhs; whnf)) ?_ | refine JL.pure rfl (y_pick_f rfl (by conv => lhs; whnf)) ?_ | refine JL.pure rfl (y_eqlNil rfl rfl rfl) ?_ | refine JL.pure rfl (y_neqNil rfl rfl rfl) ?_ | refine JL.pure rfl (y_eqlSNil rfl rfl rfl) ?_ | refine JL.pure rfl (y_len rfl) ?_ | refine JL.pure rfl (y_lenS rfl) ?_ | refine JL.pure rfl (y_makeFunc rfl) ?_ | refine JL.pure rfl (y_lss rfl rfl (decide_eq_true (by omega))) ?_ | refine JL.pure rfl (y_lss rfl rfl (decide_eq_false (by omega))) ?_ | refine JL.pure rfl (y_leq rfl rfl (decide_eq_true (by omega))) ?_ | refine JL.pure rfl (y_leq rfl rfl (decide_eq_false (by omega))) ?_ | refine JL.pure rfl (y_gtr rfl rfl (decide_eq_true (by omega))) ?_ | refine JL.pure rfl (y_gtr rfl rfl (decide_eq_false (by omega))) ?_ | refine JL.pure rfl (y_geq rfl rfl (decide_eq_true (by omega))) ?_ | refine JL.pure rfl (y_geq rfl rfl (decide_eq_false (by omega))) ?_ | refine JL.pure rfl (y_eql rfl rfl (decide_eq_true (by omega))) ?_ | refine JL.pure rfl (y_eql rfl rfl (decide_eq_false (by omega))) ?_ | refine JL.pure rfl (y_neq rfl rfl (r := false) (decide_eq_true (by omega))) ?_ | refine JL.pure rfl (y_neq rfl rfl (r := true) (decide_eq_false (by omega))) ?_ | refine JL.pure rfl (y_add rfl rfl (wrap_add (by omega) (by omega))) ?_ | refine JL.pure rfl (y_sub rfl rfl (wrap_add (by omega) (by omega))) ?_ | refine JL.pure rfl (y_index rfl rfl (by omega)) ?_ | refine JL.pure rfl (y_index (j := 0) rfl rfl (by omega)) ?_ | refine JL.was rfl (w_load1 rfl (by assumption)) ?_)
  refine JL.step rfl (e_call rfl rfl (counted_ok 16 (by decide) W r) ?_)
  rintro v l' ⟨le, ho, rfl⟩
  obtain ⟨A, c, rfl, hs, hc⟩ := ho.src (W := W)
  refine JL.step rfl (e_call rfl rfl (key_ok (bs := cnt 16) (cnt_len 16) (by decide) (hs.mono fun e he => by simp [he])) ?_)
  rintro v l' ⟨rfl, rfl⟩
  refine JL.step rfl (e_call rfl rfl (counted_ok 15 (by decide) W _) ?_)
  rintro v l' ⟨le2, ho2, rfl⟩
  obtain ⟨A2, c2, hv, hs2, hc2⟩ := ho2.src (W := W)
  have hA2 : A2 = none → (15 : Nat) = 0 ∧ c2 = 0 := fun h => by
    subst h
    rcases ho2.2 with ⟨h1, h2, _⟩ | ⟨g, cap, h1, _⟩
    · cases h2
    · rw [h1] at hv; cases hv
  subst hv
  refine JL.step rfl (e_buildSlice (cells := [.slice A2 15 c2]) [.slice A2 15 c2] rfl (Nat.le_of_ble_eq_true rfl) rfl (fun u hu => by cases List.mem_singleton.1 hu; rfl) rfl fun b => ?_)
  refine JL.step rfl (e_call rfl rfl (Sum_ok (keyOf_len (cnt 16)) (bss := [cnt 15]) rfl (by decide) (RowsAt.one (bs := cnt 15) (List.mem_cons_self ..) (hs2.mono fun e he => by simp [he]) hA2) (by decide)) ?_)
  rintro v l' ⟨rfl, rfl⟩
  repeat (first | refine JC.seq ?_ | refine JL.nil ?_ | refine RN.seq ?_ | refine RN.blk ?_ | refine JC.region ?_ | refine JC.skip ?_ | refine JC.block ?_ | refine JC.exit ?_ | refine JC.cond_t rfl ?_ | refine JC.cond_f rfl ?_ | refine JL.omit rfl ?_ | refine JL.pure rfl (y_eql64 (b := 11613035633349379557#64) rfl rfl (decide_eq_true sip_known)) ?_ | refine JL.pure rfl (y_move (by conv => lhs; whnf)) ?_ | refine JL.pure rfl (y_assign (by conv => lhs; whnf)) ?_ | refine JL.pure rfl (y_extract rfl rfl) ?_ | refine JL.pure rfl (y_fieldAddr rfl) ?_ | refine JL.pure rfl (y_nilCheck rfl) ?_ | refine JL.pure rfl (y_not rfl) ?_ | refine JL.pure rfl (y_pick_t rfl (by conv => lhs; whnf)) ?_ | refine JL.pure rfl (y_pick_f rfl (by conv => lhs; whnf)) ?_ | refine JL.pure rfl (y_eqlNil rfl rfl rfl) ?_ | refine JL.pure rfl (y_neqNil rfl rfl rfl) ?_ | refine JL.pure rfl (y_eqlSNil rfl rfl rfl) ?_ | refine JL.pure rfl (y_len rfl) ?_ | refine JL.pure rfl (y_lenS rfl) ?_ | refine JL.pure rfl (y_makeFunc rfl) ?_ | refine JL.pure rfl (y_lss rfl rfl (decide_eq_true (by omega))) ?_ | refine JL.pure rfl (y_lss rfl rfl (decide_eq_false (by omega))) ?_ | refine JL.pure rfl (y_leq rfl rfl (decide_eq_true (by omega))) ?_ | refine JL.pure rfl (y_leq rfl rfl (decide_eq_false (by omega))) ?_ | refine JL.pure rfl (y_gtr rfl rfl (decide_eq_true (by omega))) ?_ | refine JL.pure rfl (y_gtr rfl rfl (decide_eq_false (by omega))) ?_ | refine JL.pure rfl (y_geq rfl rfl (decide_eq_true (by omega))) ?_ | refine JL.pure rfl (y_geq rfl rfl (decide_eq_false (by omega))) ?_ | refine JL.pure rfl (y_eql rfl rfl (decide_eq_true (by omega))) ?_ | refine JL.pure rfl (y_eql rfl rfl (decide_eq_false (by omega))) ?_ | refine JL.pure rfl (y_neq rfl rfl (r := false) (decide_eq_true (by omega))) ?_ | refine JL.pure rfl (y_neq rfl rfl (r := true) (decide_eq_false (by omega))) ?_ | refine JL.pure rfl (y_add rfl rfl (wrap_add (by omega) (by omega))) ?_ | refine JL.pure rfl (y_sub rfl rfl (wrap_add (by omega) (by omega))) ?_ | refine JL.pure rfl (y_index rfl rfl (by omega)) ?_ | refine JL.pure rfl (y_index (j := 0) rfl rfl (by omega)) ?_ | refine JL.was rfl (w_load1 rfl (by assumption)) ?_)
  exact JC.ret (RT.one rfl rfl rfl rfl)
end Go.Proofs.Ytjobamodncaanaa
