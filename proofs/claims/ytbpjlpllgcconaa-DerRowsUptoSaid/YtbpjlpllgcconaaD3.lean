import Derived.Test.YtbpjlpllgcconaaD2
set_option linter.unusedVariables false
set_option linter.unusedSimpArgs false
namespace Go.Proofs.Ytbpjlpllgcconaa
open Go.RowKit Go.Lg
attribute [local irreducible] JC JL JD RN RT Eff Yld YldIf Tr lenB wrapB num
/-- So far turned round: i on either side. -/
def revP (bs : List UInt8) (i : Nat) : List UInt8 := (List.range bs.length).map fun k => if k < i ∨ bs.length ≤ k + i then bs.getD (bs.length - 1 - k) 0 else bs.getD k 0
theorem revP_len (bs : List UInt8) (i : Nat) : (revP bs i).length = bs.length := by simp [revP]
theorem revP_get (bs : List UInt8) (i k : Nat) (h : k < bs.length) : (revP bs i)[k]? = some (if k < i ∨ bs.length ≤ k + i then bs.getD (bs.length - 1 - k) 0 else bs.getD k 0) := by
  unfold revP
  rw [List.getElem?_map, List.getElem?_range h]
  rfl
theorem revP_zero (bs : List UInt8) : revP bs 0 = bs := by
  apply List.ext_getElem?
  intro k
  by_cases h : k < bs.length
  · rw [revP_get bs 0 k h, if_neg (by omega), List.getElem?_eq_getElem h]
    simp [List.getD, List.getElem?_eq_getElem h]
  · rw [List.getElem?_eq_none (by rw [revP_len]; omega), List.getElem?_eq_none (by omega)]
theorem revP_end (bs : List UInt8) (i : Nat) (h : bs.length ≤ 2 * i + 1) : revP bs i = bs.reverse := by
  apply List.ext_getElem?
  intro k
  by_cases hk : k < bs.length
  · rw [revP_get bs i k hk, List.getElem?_reverse hk, List.getElem?_eq_getElem (by omega)]
    congr 1
    by_cases h1 : k < i ∨ bs.length ≤ k + i
    · rw [if_pos h1]
      simp [List.getD, List.getElem?_eq_getElem (show bs.length - 1 - k < bs.length by omega)]
    · rw [if_neg h1]
      have : bs.length - 1 - k = k := by omega
      simp [List.getD, List.getElem?_eq_getElem hk, this]
  · rw [List.getElem?_eq_none (by rw [revP_len]; omega), List.getElem?_eq_none (by simp; omega)]
theorem revP_step {bs : List UInt8} {i : Nat} (h : i + 1 + i < bs.length) : ((revP bs i).set i (bs.getD (bs.length - 1 - i) 0)).set (bs.length - 1 - i) (bs.getD i 0) = revP bs (i + 1) := by
  apply List.ext_getElem?
  intro k
  by_cases hk : k < bs.length
  · rw [revP_get bs (i + 1) k hk, List.getElem?_set, List.getElem?_set, revP_get bs i k hk]
    simp only [List.length_set, revP_len]
    by_cases h1 : bs.length - 1 - i = k
    · rw [if_pos h1, if_pos (by omega), if_pos (by omega)]
      congr 2; omega
    · rw [if_neg h1]
      by_cases h2 : i = k
      · rw [if_pos h2, if_pos (by omega), if_pos (by omega), h2]
      · rw [if_neg h2]
        congr 1
        by_cases h3 : k < i ∨ bs.length ≤ k + i
        · rw [if_pos h3, if_pos (by omega)]
        · rw [if_neg h3, if_neg (by omega)]
  · rw [List.getElem?_eq_none (by rw [List.length_set, List.length_set, revP_len]; omega), List.getElem?_eq_none (by rw [revP_len]; omega)]
theorem set_bv (xs : List UInt8) {j : Nat} (hj : j < xs.length) (x : UInt8) : (xs.map bv).take (0 + j * 1) ++ (bv x).cells.toList ++ (xs.map bv).drop (0 + j * 1 + 1) = (xs.set j x).map bv := by
  rw [List.set_eq_take_append_cons_drop, if_pos hj, Nat.mul_one, Nat.zero_add]
  simp [List.map_take, List.map_drop, bv, Value.cells]
theorem e_storeB {P : Program} {ρ : Operand → Value} {d : Option Tmp} {ty : TypeId} {pos : String} {af : Array Edge} {gd : Option (Nat × Bool)} {W : World} {l : List Ent} {Ψ : Value → List Ent → Prop} {t T : TypeId} {x y : Operand} {b j tot : Nat} {xs : List UInt8} {u : UInt8} (i : Nat) (he : l[i]? = some (b, isR T tot (xs.map bv))) [hs : Sz P t 1]
    (hx : ρ x = .pointer (some ⟨b, 0 + j * 1, none⟩)) (hy : ρ y = bv u) (hj : j < xs.length) (h : Ψ undef (l.set i (b, isR T tot ((xs.set j u).map bv)))) : Eff P W l ⟨d, .store t x y, ty, pos, af, gd⟩ ρ Ψ :=
  e_storeR (n := 1) i he hx hy rfl (bv_all _) (by rw [List.length_map]; omega) (by rw [set_bv xs hj]; exact h)
set_option maxHeartbeats 2000000 in
theorem Reverse_ok {g n cap tot : Nat} {bs : List UInt8} {W : World} {r : List Ent} (hl : bs.length = n) (h0 : 0 < n) (hm : n ≤ 35184372088832) :
    Tr Pg 42 #[.slice (some ⟨g, 0, none⟩) n cap] W ((g, isR 5 tot (bs.map bv)) :: r) fun _ l' => l' = (g, isR 5 tot (bs.reverse.map bv)) :: r := by
  refine Tr.of_code (args := [_]) Try.func42 rfl Try.ntmps42 (Nat.le_of_ble_eq_true rfl) ?_
  repeat (first | refine JC.seq ?_ | refine JL.nil ?_ | refine RN.seq ?_ | refine RN.blk ?_ | refine JC.region ?_ | refine JC.skip ?_ | refine JC.block ?_ | refine JC.exit ?_ | refine JC.cond_t rfl ?_ | refine JC.cond_f rfl ?_ | refine JL.omit rfl ?_ | refine JL.pure rfl (y_move (by conv => lhs; whnf)) ?_ | refine JL.pure rfl (y_assign (by conv => lhs; whnf)) ?_ | refine JL.pure rfl (y_extract rfl rfl) ?_ | refine JL.pure rfl (y_fieldAddr rfl) ?_ | refine JL.pure rfl (y_nilCheck rfl) ?_ | refine JL.pure rfl (y_not rfl) ?_ | refine JL.pure rfl (y_pick_t rfl (by conv => lhs; whnf)) ?_ | refine JL.pure rfl (y_pick_f rfl (by conv => lhs; whnf)) ?_ | refine JL.pure rfl (y_eqlNil rfl rfl rfl) ?_ | refine JL.pure rfl (y_neqNil rfl rfl rfl) ?_ | refine JL.pure rfl (y_eqlSNil rfl rfl rfl) ?_ | refine JL.pure rfl (y_len rfl) ?_ | refine JL.pure rfl (y_lenS rfl) ?_ | refine JL.pure rfl (y_makeFunc rfl) ?_ | refine JL.pure rfl (y_lss rfl rfl (decide_eq_true (by omega))) ?_ | refine JL.pure rfl (y_lss rfl rfl (decide_eq_false (by omega))) ?_ | refine JL.pure rfl (y_leq rfl rfl (decide_eq_true (by omega))) ?_ | refine JL.pure rfl (y_leq rfl rfl (decide_eq_false (by omega))) ?_ | refine JL.pure rfl (y_gtr rfl rfl (decide_eq_true (by omega))) ?_ | refine JL.pure rfl (y_gtr rfl rfl (decide_eq_false (by omega))) ?_ | refine JL.pure rfl (y_geq rfl rfl (decide_eq_true (by omega))) ?_ | refine JL.pure rfl (y_geq rfl rfl (decide_eq_false (by omega))) ?_ | refine JL.pure rfl (y_eql rfl rfl (decide_eq_true (by omega))) ?_ | refine JL.pure rfl (y_eql rfl rfl (decide_eq_false (by omega))) ?_ | refine JL.pure rfl (y_neq rfl rfl (r := false) (decide_eq_true (by omega))) ?_ | refine JL.pure rfl (y_neq rfl rfl (r := true) (decide_eq_false (by omega))) ?_ | refine JL.pure rfl (y_add rfl rfl (wrap_add (by omega) (by omega))) ?_ | refine JL.pure rfl (y_sub rfl rfl (wrap_add (by omega) (by omega))) ?_ | refine JL.pure rfl (y_index rfl rfl (by omega)) ?_ | refine JL.pure rfl (y_index (j := 0) rfl rfl (by omega)) ?_ | refine JL.was rfl (w_load1 rfl (by assumption)) ?_)
  refine JC.loop (fun m f l => ∃ (i : Nat) (jj : Int), 2 * i ≤ n ∧ i + m = n ∧ jj = (n : Int) - 1 - i ∧ FrOk f [(0, .slice (some ⟨g, 0, none⟩) n cap), (2, .int .i64 (i : Int)), (3, .int .i64 jj)] ∧ l = (g, isR 5 tot ((revP bs i).map bv)) :: r) n ?_ ?_
  · exact ⟨0, _, by omega, by omega, by omega, ⟨rfl, rfl, rfl, trivial⟩, by rw [revP_zero]⟩
  rintro m f l ⟨i, jj, hi, hm', hjj, hf, rfl⟩
  refine JC.frame _ hf fun f' => ?_
  by_cases hij : (i : Int) < jj
  · obtain rfl : jj = ((n - 1 - i : Nat) : Int) := by omega
    have hgi : ((revP bs i).map bv)[0 + i * 1]? = some (bv (bs.getD i 0)) := by
      rw [Nat.mul_one, Nat.zero_add, List.getElem?_map, revP_get bs i i (by omega), if_neg (by omega)]; rfl
    have hgj : ((revP bs i).map bv)[0 + (n - 1 - i) * 1]? = some (bv (bs.getD (n - 1 - i) 0)) := by
      rw [Nat.mul_one, Nat.zero_add, List.getElem?_map, revP_get bs i (n - 1 - i) (by omega), if_neg (by omega)]; rfl
    have hrl := revP_len bs i
    repeat (first | refine JC.seq ?_ | refine JL.nil ?_ | refine RN.seq ?_ | refine RN.blk ?_ | refine JC.region ?_ | refine JC.skip ?_ | refine JC.block ?_ | refine JC.exit ?_ | refine JC.cond_t rfl ?_ | refine JC.cond_f rfl ?_ | refine JL.omit rfl ?_ | refine JL.pure rfl (y_move (by conv => lhs; whnf)) ?_ | refine JL.pure rfl (y_assign (by conv => lhs; whnf)) ?_ | refine JL.pure rfl (y_extract rfl rfl) ?_ | refine JL.pure rfl (y_fieldAddr rfl) ?_ | refine JL.pure rfl (y_nilCheck rfl) ?_ | refine JL.pure rfl (y_not rfl) ?_ | refine JL.pure rfl (y_pick_t rfl (by conv => lhs; whnf)) ?_ | refine JL.pure rfl (y_pick_f rfl (by conv => lhs; whnf)) ?_ | refine JL.pure rfl (y_eqlNil rfl rfl rfl) ?_ | refine JL.pure rfl (y_neqNil rfl rfl rfl) ?_ | refine JL.pure rfl (y_eqlSNil rfl rfl rfl) ?_ | refine JL.pure rfl (y_len rfl) ?_ | refine JL.pure rfl (y_lenS rfl) ?_ | refine JL.pure rfl (y_makeFunc rfl) ?_ | refine JL.pure rfl (y_lss rfl rfl (decide_eq_true (by omega))) ?_ | refine JL.pure rfl (y_lss rfl rfl (decide_eq_false (by omega))) ?_ | refine JL.pure rfl (y_leq rfl rfl (decide_eq_true (by omega))) ?_ | refine JL.pure rfl (y_leq rfl rfl (decide_eq_false (by omega))) ?_ | refine JL.pure rfl (y_gtr rfl rfl (decide_eq_true (by omega))) ?_ | refine JL.pure rfl (y_gtr rfl rfl (decide_eq_false (by omega))) ?_ | refine JL.pure rfl (y_geq rfl rfl (decide_eq_true (by omega))) ?_ | refine JL.pure rfl (y_geq rfl rfl (decide_eq_false (by omega))) ?_ | refine JL.pure rfl (y_eql rfl rfl (decide_eq_true (by omega))) ?_ | refine JL.pure rfl (y_eql rfl rfl (decide_eq_false (by omega))) ?_ | refine JL.pure rfl (y_neq rfl rfl (r := false) (decide_eq_true (by omega))) ?_ | refine JL.pure rfl (y_neq rfl rfl (r := true) (decide_eq_false (by omega))) ?_ | refine JL.pure rfl (y_add rfl rfl (wrap_add (by omega) (by omega))) ?_ | refine JL.pure rfl (y_sub rfl rfl (wrap_add (by omega) (by omega))) ?_ | refine JL.pure rfl (y_index rfl rfl (by omega)) ?_ | refine JL.pure rfl (y_index (j := 0) rfl rfl (by omega)) ?_ | refine JL.was rfl (w_load1 rfl (by assumption)) ?_)
    refine JC.drawn 16 rfl mixed ?_
    refine JD.pure 0 rfl (by kernel_rfl) rfl (y_move (by conv => lhs; whnf)) ?_
    refine JD.pure 1 rfl (by kernel_rfl) rfl (y_move (by conv => lhs; whnf)) ?_
    refine JD.pure 2 rfl (by kernel_rfl) rfl (y_move (by conv => lhs; whnf)) ?_
    refine JD.pure 3 rfl (by kernel_rfl) rfl (y_move (by conv => lhs; whnf)) ?_
    refine JD.pure 4 rfl (by kernel_rfl) rfl (y_move (by conv => lhs; whnf)) ?_
    refine JD.pure 5 rfl (by kernel_rfl) rfl (y_move (by conv => lhs; whnf)) ?_
    first  | refine JD.pure 6 rfl (by kernel_rfl) rfl (y_indexA rfl rfl (by omega)) ?_ | refine JD.pure 6 rfl (by kernel_rfl) rfl (y_index rfl rfl (by omega)) ?_
    refine JD.pure 8 rfl (by kernel_rfl) rfl (y_move (by conv => lhs; whnf)) ?_
    refine JD.pure 9 rfl (by kernel_rfl) rfl (y_move (by conv => lhs; whnf)) ?_
    first  | refine JD.pure 10 rfl (by kernel_rfl) rfl (y_indexA rfl rfl (by omega)) ?_ | refine JD.pure 10 rfl (by kernel_rfl) rfl (y_index rfl rfl (by omega)) ?_
    refine JD.read 7 0 rfl rfl (by kernel_rfl) (by kernel_rfl) rfl (r_loadR1 (v := bv (bs.getD (n - 1 - i) 0)) rfl hgj) ?_
    refine JD.read 11 0 rfl rfl (by kernel_rfl) (by kernel_rfl) rfl (r_loadR1 (v := bv (bs.getD i 0)) rfl hgi) ?_
    first  | refine JD.pure 12 rfl (by kernel_rfl) rfl (y_indexA rfl rfl (by omega)) ?_ | refine JD.pure 12 rfl (by kernel_rfl) rfl (y_index rfl rfl (by omega)) ?_
    refine JD.eff 13 (by kernel_rfl) rfl rfl (e_storeB (j := i) (u := bs.getD (n - 1 - i) 0) 0 rfl rfl rfl (by omega) ⟨by repeat (first | exact TOk.nil | refine TOk.was ?_ | refine TOk.past (by decide +kernel) ?_ | refine TOk.mem (by simp) ?_), ?_⟩)
    first  | refine JD.pure 14 rfl (by kernel_rfl) rfl (y_indexA rfl rfl (by omega)) ?_ | refine JD.pure 14 rfl (by kernel_rfl) rfl (y_index rfl rfl (by omega)) ?_
    refine JD.eff 15 (by kernel_rfl) rfl rfl (e_storeB (j := n - 1 - i) (u := bs.getD i 0) 0 rfl rfl rfl (by rw [List.length_set]; omega) ⟨by repeat (first | exact TOk.nil | refine TOk.was ?_ | refine TOk.past (by decide +kernel) ?_ | refine TOk.mem (by simp) ?_), ?_⟩)
    refine JD.done (by kernel_rfl) ?_
    repeat (first | refine JC.seq ?_ | refine JL.nil ?_ | refine RN.seq ?_ | refine RN.blk ?_ | refine JC.region ?_ | refine JC.skip ?_ | refine JC.block ?_ | refine JC.exit ?_ | refine JC.cond_t rfl ?_ | refine JC.cond_f rfl ?_ | refine JL.omit rfl ?_ | refine JL.pure rfl (y_move (by conv => lhs; whnf)) ?_ | refine JL.pure rfl (y_assign (by conv => lhs; whnf)) ?_ | refine JL.pure rfl (y_extract rfl rfl) ?_ | refine JL.pure rfl (y_fieldAddr rfl) ?_ | refine JL.pure rfl (y_nilCheck rfl) ?_ | refine JL.pure rfl (y_not rfl) ?_ | refine JL.pure rfl (y_pick_t rfl (by conv => lhs; whnf)) ?_ | refine JL.pure rfl (y_pick_f rfl (by conv => lhs; whnf)) ?_ | refine JL.pure rfl (y_eqlNil rfl rfl rfl) ?_ | refine JL.pure rfl (y_neqNil rfl rfl rfl) ?_ | refine JL.pure rfl (y_eqlSNil rfl rfl rfl) ?_ | refine JL.pure rfl (y_len rfl) ?_ | refine JL.pure rfl (y_lenS rfl) ?_ | refine JL.pure rfl (y_makeFunc rfl) ?_ | refine JL.pure rfl (y_lss rfl rfl (decide_eq_true (by omega))) ?_ | refine JL.pure rfl (y_lss rfl rfl (decide_eq_false (by omega))) ?_ | refine JL.pure rfl (y_leq rfl rfl (decide_eq_true (by omega))) ?_ | refine JL.pure rfl (y_leq rfl rfl (decide_eq_false (by omega))) ?_ | refine JL.pure rfl (y_gtr rfl rfl (decide_eq_true (by omega))) ?_ | refine JL.pure rfl (y_gtr rfl rfl (decide_eq_false (by omega))) ?_ | refine JL.pure rfl (y_geq rfl rfl (decide_eq_true (by omega))) ?_ | refine JL.pure rfl (y_geq rfl rfl (decide_eq_false (by omega))) ?_ | refine JL.pure rfl (y_eql rfl rfl (decide_eq_true (by omega))) ?_ | refine JL.pure rfl (y_eql rfl rfl (decide_eq_false (by omega))) ?_ | refine JL.pure rfl (y_neq rfl rfl (r := false) (decide_eq_true (by omega))) ?_ | refine JL.pure rfl (y_neq rfl rfl (r := true) (decide_eq_false (by omega))) ?_ | refine JL.pure rfl (y_add rfl rfl (wrap_add (by omega) (by omega))) ?_ | refine JL.pure rfl (y_sub rfl rfl (wrap_add (by omega) (by omega))) ?_ | refine JL.pure rfl (y_index rfl rfl (by omega)) ?_ | refine JL.pure rfl (y_index (j := 0) rfl rfl (by omega)) ?_ | refine JL.was rfl (w_load1 rfl (by assumption)) ?_)
    refine RN.loop (m' := m - 1) (by omega) ⟨i + 1, _, by omega, by omega, ?_, ⟨rfl, rfl, rfl, trivial⟩, ?_⟩
    · omega
    · rw [← revP_step (by omega), hl]; rfl
  · repeat (first | refine JC.seq ?_ | refine JL.nil ?_ | refine RN.seq ?_ | refine RN.blk ?_ | refine JC.region ?_ | refine JC.skip ?_ | refine JC.block ?_ | refine JC.exit ?_ | refine JC.cond_t rfl ?_ | refine JC.cond_f rfl ?_ | refine JL.omit rfl ?_ | refine JL.pure rfl (y_move (by conv => lhs; whnf)) ?_ | refine JL.pure rfl (y_assign (by conv => lhs; whnf)) ?_ | refine JL.pure rfl (y_extract rfl rfl) ?_ | refine JL.pure rfl (y_fieldAddr rfl) ?_ | refine JL.pure rfl (y_nilCheck rfl) ?_ | refine JL.pure rfl (y_not rfl) ?_ | refine JL.pure rfl (y_pick_t rfl (by conv => lhs; whnf)) ?_ | refine JL.pure rfl (y_pick_f rfl (by conv => lhs; whnf)) ?_ | refine JL.pure rfl (y_eqlNil rfl rfl rfl) ?_ | refine JL.pure rfl (y_neqNil rfl rfl rfl) ?_ | refine JL.pure rfl (y_eqlSNil rfl rfl rfl) ?_ | refine JL.pure rfl (y_len rfl) ?_ | refine JL.pure rfl (y_lenS rfl) ?_ | refine JL.pure rfl (y_makeFunc rfl) ?_ | refine JL.pure rfl (y_lss rfl rfl (decide_eq_true (by omega))) ?_ | refine JL.pure rfl (y_lss rfl rfl (decide_eq_false (by omega))) ?_ | refine JL.pure rfl (y_leq rfl rfl (decide_eq_true (by omega))) ?_ | refine JL.pure rfl (y_leq rfl rfl (decide_eq_false (by omega))) ?_ | refine JL.pure rfl (y_gtr rfl rfl (decide_eq_true (by omega))) ?_ | refine JL.pure rfl (y_gtr rfl rfl (decide_eq_false (by omega))) ?_ | refine JL.pure rfl (y_geq rfl rfl (decide_eq_true (by omega))) ?_ | refine JL.pure rfl (y_geq rfl rfl (decide_eq_false (by omega))) ?_ | refine JL.pure rfl (y_eql rfl rfl (decide_eq_true (by omega))) ?_ | refine JL.pure rfl (y_eql rfl rfl (decide_eq_false (by omega))) ?_ | refine JL.pure rfl (y_neq rfl rfl (r := false) (decide_eq_true (by omega))) ?_ | refine JL.pure rfl (y_neq rfl rfl (r := true) (decide_eq_false (by omega))) ?_ | refine JL.pure rfl (y_add rfl rfl (wrap_add (by omega) (by omega))) ?_ | refine JL.pure rfl (y_sub rfl rfl (wrap_add (by omega) (by omega))) ?_ | refine JL.pure rfl (y_index rfl rfl (by omega)) ?_ | refine JL.pure rfl (y_index (j := 0) rfl rfl (by omega)) ?_ | refine JL.was rfl (w_load1 rfl (by assumption)) ?_)
    rw [revP_end bs i (by omega)]
    exact RN.none rfl rfl
end Go.Proofs.Ytbpjlpllgcconaa
