/- What the law of the whole stands on, part 5 of 6: the heap as it lies, and a contract for each function that the law reaches. -/

import Derived.Test.YtbalcgjphkdecaaGreatDoorK4
set_option linter.unusedVariables false
set_option linter.unusedSimpArgs false
namespace Go.Proofs.YtbalcgjphkdecaaGreatDoor.To
open Go.RowKit Go.Lg
set_option maxRecDepth 100000
theorem len3 (ys : List (Pt × Value)) : (ys.flatMap enc3).length = ys.length * 3 := row_len enc3 enc3_len ys
theorem at3 {ys xs : List (Pt × Value)} {i : Nat} (hi : i < xs.length) (hy : ys.length = i) : (ys ++ xs.drop i).flatMap enc3 = ys.flatMap enc3 ++ ([sv (xs[i]'hi).1.fr, sv (xs[i]'hi).1.to_, (xs[i]'hi).2] ++ (xs.drop (i + 1)).flatMap enc3) := by
 rw [List.drop_eq_getElem_cons hi, List.flatMap_append, List.flatMap_cons]; rfl
theorem get3 {ys xs : List (Pt × Value)} {i : Nat} (hi : i < xs.length) (hy : ys.length = i) : (((ys ++ xs.drop i).flatMap enc3).drop (0 + i * 3)).take 3 = enc3 (xs[i]'hi) := by
 rw [at3 hi hy, Nat.zero_add, List.drop_append_of_le_length (by rw [len3, hy]; exact Nat.le_refl _), List.drop_of_length_le (by rw [len3, hy]; exact Nat.le_refl _)]
 rfl
theorem put3 {ys xs : List (Pt × Value)} {i : Nat} (hi : i < xs.length) (hy : ys.length = i) (v : Value) : ((ys ++ xs.drop i).flatMap enc3).take (0 + i * 3 + 2) ++ [v] ++ ((ys ++ xs.drop i).flatMap enc3).drop (0 + i * 3 + 2 + 1) = ((ys ++ [((xs[i]'hi).1, v)]) ++ xs.drop (i + 1)).flatMap enc3 := by
 have h0 : (ys.flatMap enc3).length = i * 3 := by rw [len3, hy]
 rw [at3 hi hy, Nat.zero_add, ← h0, Nat.add_assoc, List.take_length_add_append, List.drop_length_add_append, List.flatMap_append, List.flatMap_append, List.flatMap_singleton]
 unfold enc3
 simp
theorem ViaV.mono {W : World} {r r' : List Ent} {x : Pt × Value} (h : ViaV W r x) (hr : ∀ e ∈ r, e ∈ r') : ViaV W r' x := by obtain ⟨A, c, h1, h2⟩ := h; exact ⟨A, c, h1, h2.mono hr⟩
attribute [local irreducible] JC JL JD RN RT Eff Yld YldIf Tr partsL okR splitL wordB joinD fit betweenS laidS viaS De.wrapB De.num De.clampI K Se.sealB Pa.byts Au.byts RP.byts Mg.byts Se.inc tillM
set_option maxHeartbeats 4000000 in
theorem copiedA_ok {T : Topo} {vs : List Value} {W : World} {r : List Ent} (hT : TopoV W r vs T) (hr : T.rs.length ≤ 1000) (hl : T.ls.length ≤ 1000) (hp : T.ps.length ≤ 1000) (hv : ∀ p ∈ T.ps, p.via.length ≤ 1000) :
  Tr Pg 84 #[.agg vs.toArray] W r fun v l' => ∃ u1 u2 u3 TH, v = .agg #[u1, u2, u3] ∧ TopoV W TH [u1, u2, u3] T ∧ l' = TH ++ r := by
 obtain ⟨A1, c1, A2, c2, A3, c3, xs, rfl, hps, h1, h2, h3, h4⟩ := hT
 have hxl : xs.length ≤ 1000 := by have := congrArg List.length hps; rw [List.length_map] at this; omega
 refine Tr.of_code (args := [_]) Tryz.func84 rfl Tryz.ntmps84 lE_ ?_
 refine AU0 ?_
 refine JLs (e_box (cs := [.slice A1 T.rs.length c1, .slice A2 T.ls.length c2, .slice A3 xs.length c3]) rfl rfl fun b1 => ?_)
 refine JLs (e_alloc fun b2 => ?_)
 refine JL.perm (l' := (b1, isC 43 [.slice A1 T.rs.length c1, .slice A2 T.ls.length c2, .slice A3 xs.length c3]) :: (b2, isC 43 [.slice none 0 0, .slice none 0 0, .slice none 0 0]) :: r) prm_ ?_
 refine AU0 ?_
 refine JC.drawn 15 rfl mixed ?_
 refine JDp 0 rfl (y_fieldAddr rfl) ?_
 refine JDr 1 0 rfl rfl (r_load1 rfl rfl) ?_
 refine JDp 3 rfl (y_fieldAddr rfl) ?_
 refine JDr 4 0 rfl rfl (r_load1 rfl rfl) ?_
 refine JDp 6 rfl (y_fieldAddr rfl) ?_
 refine JDr 7 0 rfl rfl (r_load1 rfl rfl) ?_
 refine JDe 2 rfl (e_call rfl rfl (CloneS_ok (by rw [List.length_map, Nat.mul_one]) (by omega) (fun u hu => by obtain ⟨y, _, rfl⟩ := List.mem_map.1 hu; rfl) (h1.1.mono fun e he => by simp [he]) h1.2.2) ?_)
 rintro v l' ⟨le1, ho1, rfl⟩
 obtain ⟨E1, d1, rfl, hs1⟩ := SlV.own (W := W) ho1
 refine ⟨tok_, ?_⟩
 refine JD.perm (l' := (b1, isC 43 [.slice A1 T.rs.length c1, .slice A2 T.ls.length c2, .slice A3 xs.length c3]) :: (b2, isC 43 [.slice none 0 0, .slice none 0 0, .slice none 0 0]) :: (le1 ++ r)) prm_ ?_
 refine JDp 9 rfl (y_fieldAddr rfl) ?_
 refine JDe 5 rfl (e_call rfl rfl (CloneL_ok (by rw [row_len enc2 enc2_len]) (by omega) (enc2_one _) (h2.1.mono fun e he => by simp [he]) h2.2.2) ?_)
 rintro v l' ⟨le2, ho2, rfl⟩
 obtain ⟨E2, d2, rfl, hs2⟩ := SlV.own (W := W) ho2
 refine ⟨tok_, ?_⟩
 refine JD.perm (l' := (b1, isC 43 [.slice A1 T.rs.length c1, .slice A2 T.ls.length c2, .slice A3 xs.length c3]) :: (b2, isC 43 [.slice none 0 0, .slice none 0 0, .slice none 0 0]) :: (le2 ++ (le1 ++ r))) prm_ ?_
 refine JDe 8 rfl (e_call rfl rfl (CloneW_ok (len3 xs) (by omega) (fun u hu => by obtain ⟨y, hy, hu⟩ := List.mem_flatMap.1 hu; obtain ⟨Av, cv, hxv, -⟩ := h4 y hy; unfold enc3 at hu; rw [hxv] at hu; simp only [List.mem_cons, List.not_mem_nil, or_false] at hu; rcases hu with rfl | rfl | rfl <;> rfl) (h3.1.mono fun e he => by simp [he]) h3.2.2) ?_)
 rintro v l' ⟨le3, ho3, rfl⟩
 obtain ⟨E3, d3, rfl, hs3⟩ := SlV.own (W := W) ho3
 refine ⟨tok_, ?_⟩
 refine JD.perm (l' := (b1, isC 43 [.slice A1 T.rs.length c1, .slice A2 T.ls.length c2, .slice A3 xs.length c3]) :: (b2, isC 43 [.slice none 0 0, .slice none 0 0, .slice none 0 0]) :: (le3 ++ (le2 ++ (le1 ++ r)))) prm_ ?_
 refine JDe 10 rfl (e_store 0 rfl rfl rfl (vs := [.slice E1 T.rs.length d1]) rfl rfl rfl lE_ ⟨tok_, ?_⟩)
 refine JDp 11 rfl (y_fieldAddr rfl) ?_
 refine JDe 12 rfl (e_store 0 rfl rfl rfl (vs := [.slice E2 T.ls.length d2]) rfl rfl rfl lE_ ⟨tok_, ?_⟩)
 refine JDp 13 rfl (y_fieldAddr rfl) ?_
 refine JDe 14 rfl (e_store 0 rfl rfl rfl (vs := [.slice E3 xs.length d3]) rfl rfl rfl lE_ ⟨tok_, ?_⟩)
 refine JDd ?_
 refine RN.cast (l' := (b1, isC 43 [.slice E1 T.rs.length d1, .slice E2 T.ls.length d2, .slice E3 xs.length d3]) :: (b2, isC 43 [.slice none 0 0, .slice none 0 0, .slice none 0 0]) :: (le3 ++ (le2 ++ (le1 ++ r)))) rfl ?_
 refine AU1 ?_
 refine JC.loop (fun m f l' => ∃ i ys lg VH, i + m = xs.length ∧ FrOk f [(1, ptr b1), (2, ptr b2), (18, .slice E3 xs.length d3), (19, iv (xs.length : Int)), (20, iv (i : Int))] ∧ ys.length = i ∧ ys.map (·.1) = (xs.take i).map (·.1) ∧ (∀ y ∈ ys, ViaV W VH y) ∧ Lg.Own 39 3 (.slice E3 xs.length d3) xs.length ((ys ++ xs.drop i).flatMap enc3) lg ∧ l' = (b1, isC 43 [.slice E1 T.rs.length d1, .slice E2 T.ls.length d2, .slice E3 xs.length d3]) :: (b2, isC 43 [.slice none 0 0, .slice none 0 0, .slice none 0 0]) :: (lg ++ (VH ++ (le2 ++ (le1 ++ r))))) xs.length ?_ ?_
 ·exact ⟨0, [], le3, [], by omega, ⟨rfl, rfl, rfl, rfl, rfl, trivial⟩, rfl, rfl, (fun y hy => by cases hy), ho3, rfl⟩
 rintro m f l' ⟨i, ys, lg, VH, hmi, hf, hyl, hym, hyv, hog, rfl⟩
 refine JC.frame _ hf fun f' => ?_
 by_cases hi : i < xs.length
 ·obtain ⟨g, cap, he, hc1, hc2, rfl⟩ := De.own_some hog (by omega)
  injection he with he1 _ he3
  subst he1 he3
  obtain ⟨Av, cv, hxv, hsv⟩ := h4 _ (List.getElem_mem hi)
  have hen : enc3 (xs[i]'hi) = [sv (xs[i]'hi).1.fr, sv (xs[i]'hi).1.to_, .slice Av (xs[i]'hi).1.via.length cv] := by unfold enc3; rw [hxv]
  have hvl : (xs[i]'hi).1.via.length ≤ 1000 := hv _ (by rw [← hps]; exact List.mem_map_of_mem (List.getElem_mem hi))
  have hcl : ((ys ++ xs.drop i).flatMap enc3).length = xs.length * 3 := hog.1
  refine JC.cast (l' := (b1, isC 43 [.slice E1 T.rs.length d1, .slice E2 T.ls.length d2, .slice (some ⟨g, 0, none⟩) xs.length d3]) :: (b2, isC 43 [.slice none 0 0, .slice none 0 0, .slice none 0 0]) :: (g, isR 39 (d3 * 3) ((ys ++ xs.drop i).flatMap enc3)) :: (VH ++ (le2 ++ (le1 ++ r)))) rfl ?_
  refine AU0 ?_
  refine JL.read 2 rfl rfl (r_loadRA (v := enc3 (xs[i]'hi)) rfl (by rw [hcl]; omega) (get3 hi hyl)) ?_
  rw [hen]
  refine JLs (e_alloc fun b4 => ?_)
  refine AU0 ?_
  refine JLs (e_store 0 rfl rfl rfl (vs := [sv (xs[i]'hi).1.fr, sv (xs[i]'hi).1.to_, .slice Av (xs[i]'hi).1.via.length cv]) rfl rfl rfl lE_ ?_)
  refine JL.cast (l' := (b4, isC 39 [sv (xs[i]'hi).1.fr, sv (xs[i]'hi).1.to_, .slice Av (xs[i]'hi).1.via.length cv]) :: (b1, isC 43 [.slice E1 T.rs.length d1, .slice E2 T.ls.length d2, .slice (some ⟨g, 0, none⟩) xs.length d3]) :: (b2, isC 43 [.slice none 0 0, .slice none 0 0, .slice none 0 0]) :: (g, isR 39 (d3 * 3) ((ys ++ xs.drop i).flatMap enc3)) :: (VH ++ (le2 ++ (le1 ++ r)))) rfl ?_
  refine AU0 ?_
  refine JC.drawn 9 rfl mixed ?_
  refine JDp 0 rfl (y_fieldAddr rfl) ?_
  refine JDr 1 1 rfl rfl (r_load1 rfl rfl) ?_
  refine JDp 2 rfl y_mv ?_
  refine JDp 3 rfl (y_fieldAddr rfl) ?_
  refine JDr 4 0 rfl rfl (r_load1 rfl rfl) ?_
  refine JDe 5 rfl (e_call rfl rfl (CloneS_ok (by rw [List.length_map, Nat.mul_one]) (by omega) (fun u hu => by obtain ⟨y, _, rfl⟩ := List.mem_map.1 hu; rfl) (hsv.1.mono fun e he => by simp [he]) hsv.2.2) ?_)
  rintro v l' ⟨le4, ho4, rfl⟩
  obtain ⟨E4, d4, rfl, hs4⟩ := SlV.own (W := W) ho4
  refine ⟨tok_, ?_⟩
  refine JD.perm (l' := (b4, isC 39 [sv (xs[i]'hi).1.fr, sv (xs[i]'hi).1.to_, .slice Av (xs[i]'hi).1.via.length cv]) :: (b1, isC 43 [.slice E1 T.rs.length d1, .slice E2 T.ls.length d2, .slice (some ⟨g, 0, none⟩) xs.length d3]) :: (b2, isC 43 [.slice none 0 0, .slice none 0 0, .slice none 0 0]) :: (g, isR 39 (d3 * 3) ((ys ++ xs.drop i).flatMap enc3)) :: (VH ++ (le4 ++ (le2 ++ (le1 ++ r))))) prm_ ?_
  refine JDp 6 rfl (y_index (j := i) rfl rfl hi) ?_
  refine JDp 7 rfl (y_fieldAddr rfl) ?_
  refine JDe 8 rfl (e_storeR 3 rfl (o := 0 + i * 3 + 2) (n := 1) (v := .slice E4 (xs[i]'hi).1.via.length d4) rfl rfl rfl (Array.all_eq_true_iff_forall_mem.2 fun u hu => by cases List.mem_singleton.1 (Array.mem_toList_iff.2 hu); rfl) (by rw [hcl]; omega) ⟨tok_, ?_⟩)
  refine JDd ?_
  refine RN.cast (l' := (b4, isC 39 [sv (xs[i]'hi).1.fr, sv (xs[i]'hi).1.to_, .slice Av (xs[i]'hi).1.via.length cv]) :: (b1, isC 43 [.slice E1 T.rs.length d1, .slice E2 T.ls.length d2, .slice (some ⟨g, 0, none⟩) xs.length d3]) :: (b2, isC 43 [.slice none 0 0, .slice none 0 0, .slice none 0 0]) :: (g, isR 39 (d3 * 3) (((ys ++ xs.drop i).flatMap enc3).take (0 + i * 3 + 2) ++ [.slice E4 (xs[i]'hi).1.via.length d4] ++ ((ys ++ xs.drop i).flatMap enc3).drop (0 + i * 3 + 2 + 1))) :: (VH ++ (le4 ++ (le2 ++ (le1 ++ r))))) rfl ?_
  rw [put3 hi hyl]
  refine RN.sub (List.sublist_cons_self _ _) ?_
  refine AU0 ?_
  refine RN.loop (m' := m - 1) (by omega) ⟨i + 1, ys ++ [((xs[i]'hi).1, .slice E4 (xs[i]'hi).1.via.length d4)], _, VH ++ le4, by omega, ⟨rfl, rfl, rfl, rfl, rfl, trivial⟩, by rw [List.length_append, hyl]; rfl, ?_, ?_, ⟨?_, .inr ⟨g, d3, rfl, hc1, hc2, rfl⟩⟩, ?_⟩
  ·rw [List.map_append, hym, List.take_succ_eq_append_getElem hi, List.map_append]; rfl
  ·intro y hy
   rcases List.mem_append.1 hy with hy | hy
   ·exact ViaV.mono (hyv y hy) fun e he => List.mem_append_left _ he
   ·cases List.mem_singleton.1 hy
    exact ⟨E4, d4, rfl, hs4.mono fun e he => List.mem_append_right _ he⟩
  ·rw [← put3 hi hyl, List.length_append, List.length_append, List.length_take, List.length_drop, hcl]
   simp only [List.length_singleton]
   omega
  ·simp only [List.append_assoc]; rfl
 ·obtain rfl : xs.length = i := by omega
  rw [List.drop_of_length_le (Nat.le_refl _), List.append_nil] at hog
  rw [List.take_of_length_le (Nat.le_refl _), hps] at hym
  refine AU1 ?_
  refine JLs (e_store 1 rfl rfl rfl (vs := [.slice E1 T.rs.length d1, .slice E2 T.ls.length d2, .slice E3 xs.length d3]) rfl rfl rfl lE_ ?_)
  refine JL.cast (l' := (b1, isC 43 [.slice E1 T.rs.length d1, .slice E2 T.ls.length d2, .slice E3 xs.length d3]) :: (b2, isC 43 [.slice E1 T.rs.length d1, .slice E2 T.ls.length d2, .slice E3 xs.length d3]) :: (lg ++ (VH ++ (le2 ++ (le1 ++ r))))) rfl ?_
  refine AU0 ?_
  refine JC.perm (l' := (b1, isC 43 [.slice E1 T.rs.length d1, .slice E2 T.ls.length d2, .slice E3 xs.length d3]) :: (b2, isC 43 [.slice E1 T.rs.length d1, .slice E2 T.ls.length d2, .slice E3 xs.length d3]) :: ((lg ++ (VH ++ (le2 ++ le1))) ++ r)) (by simp only [List.append_assoc]; exact List.Perm.refl _) ?_
  have hxy : xs.length = ys.length := hyl.symm
  refine JC.ret (ret_cell rfl rfl 1 rfl rfl rfl (List.sublist_append_right [_, _] _) ⟨_, _, _, _, rfl, ⟨E1, d1, E2, d2, E3, d3, ys, by rw [hxy], hym, hs1.mono fun e he => by simp [he], hs2.mono fun e he => by simp [he], ?_, fun y hy => (hyv y hy).mono fun e he => by simp [he]⟩, rfl⟩)
  rw [← hxy]
  obtain ⟨E3', d3', he, hs3'⟩ := SlV.own (W := W) hog
  injection he with he1 _ he3
  subst he1 he3
  exact hs3'.mono fun e he => by simp [he]
set_option maxHeartbeats 4000000 in
theorem copiedK_ok {T : Topo} {vs : List Value} {W : World} {r : List Ent} (hT : TopoV W r vs T) (hr : T.rs.length ≤ 1000) (hl : T.ls.length ≤ 1000) (hp : T.ps.length ≤ 1000) (hv : ∀ p ∈ T.ps, p.via.length ≤ 1000) :
  Tr Pg 80 #[.agg vs.toArray] W r fun v l' => ∃ u1 u2 u3 TH, v = .agg #[u1, u2, u3] ∧ TopoV W TH [u1, u2, u3] T ∧ l' = TH ++ r := by
 obtain ⟨A1, c1, A2, c2, A3, c3, xs, rfl, hps, h1, h2, h3, h4⟩ := hT
 have hxl : xs.length ≤ 1000 := by have := congrArg List.length hps; rw [List.length_map] at this; omega
 refine Tr.of_code (args := [_]) Tryz.func80 rfl Tryz.ntmps80 lE_ ?_
 refine AU0 ?_
 refine JLs (e_box (cs := [.slice A1 T.rs.length c1, .slice A2 T.ls.length c2, .slice A3 xs.length c3]) rfl rfl fun b1 => ?_)
 refine JLs (e_alloc fun b2 => ?_)
 refine JL.perm (l' := (b1, isC 43 [.slice A1 T.rs.length c1, .slice A2 T.ls.length c2, .slice A3 xs.length c3]) :: (b2, isC 43 [.slice none 0 0, .slice none 0 0, .slice none 0 0]) :: r) prm_ ?_
 refine AU0 ?_
 refine JC.drawn 15 rfl mixed ?_
 refine JDp 0 rfl (y_fieldAddr rfl) ?_
 refine JDr 1 0 rfl rfl (r_load1 rfl rfl) ?_
 refine JDp 3 rfl (y_fieldAddr rfl) ?_
 refine JDr 4 0 rfl rfl (r_load1 rfl rfl) ?_
 refine JDp 6 rfl (y_fieldAddr rfl) ?_
 refine JDr 7 0 rfl rfl (r_load1 rfl rfl) ?_
 refine JDe 2 rfl (e_call rfl rfl (CloneS_ok (by rw [List.length_map, Nat.mul_one]) (by omega) (fun u hu => by obtain ⟨y, _, rfl⟩ := List.mem_map.1 hu; rfl) (h1.1.mono fun e he => by simp [he]) h1.2.2) ?_)
 rintro v l' ⟨le1, ho1, rfl⟩
 obtain ⟨E1, d1, rfl, hs1⟩ := SlV.own (W := W) ho1
 refine ⟨tok_, ?_⟩
 refine JD.perm (l' := (b1, isC 43 [.slice A1 T.rs.length c1, .slice A2 T.ls.length c2, .slice A3 xs.length c3]) :: (b2, isC 43 [.slice none 0 0, .slice none 0 0, .slice none 0 0]) :: (le1 ++ r)) prm_ ?_
 refine JDp 9 rfl (y_fieldAddr rfl) ?_
 refine JDe 5 rfl (e_call rfl rfl (CloneL_ok (by rw [row_len enc2 enc2_len]) (by omega) (enc2_one _) (h2.1.mono fun e he => by simp [he]) h2.2.2) ?_)
 rintro v l' ⟨le2, ho2, rfl⟩
 obtain ⟨E2, d2, rfl, hs2⟩ := SlV.own (W := W) ho2
 refine ⟨tok_, ?_⟩
 refine JD.perm (l' := (b1, isC 43 [.slice A1 T.rs.length c1, .slice A2 T.ls.length c2, .slice A3 xs.length c3]) :: (b2, isC 43 [.slice none 0 0, .slice none 0 0, .slice none 0 0]) :: (le2 ++ (le1 ++ r))) prm_ ?_
 refine JDe 8 rfl (e_call rfl rfl (CloneW_ok (len3 xs) (by omega) (fun u hu => by obtain ⟨y, hy, hu⟩ := List.mem_flatMap.1 hu; obtain ⟨Av, cv, hxv, -⟩ := h4 y hy; unfold enc3 at hu; rw [hxv] at hu; simp only [List.mem_cons, List.not_mem_nil, or_false] at hu; rcases hu with rfl | rfl | rfl <;> rfl) (h3.1.mono fun e he => by simp [he]) h3.2.2) ?_)
 rintro v l' ⟨le3, ho3, rfl⟩
 obtain ⟨E3, d3, rfl, hs3⟩ := SlV.own (W := W) ho3
 refine ⟨tok_, ?_⟩
 refine JD.perm (l' := (b1, isC 43 [.slice A1 T.rs.length c1, .slice A2 T.ls.length c2, .slice A3 xs.length c3]) :: (b2, isC 43 [.slice none 0 0, .slice none 0 0, .slice none 0 0]) :: (le3 ++ (le2 ++ (le1 ++ r)))) prm_ ?_
 refine JDe 10 rfl (e_store 0 rfl rfl rfl (vs := [.slice E1 T.rs.length d1]) rfl rfl rfl lE_ ⟨tok_, ?_⟩)
 refine JDp 11 rfl (y_fieldAddr rfl) ?_
 refine JDe 12 rfl (e_store 0 rfl rfl rfl (vs := [.slice E2 T.ls.length d2]) rfl rfl rfl lE_ ⟨tok_, ?_⟩)
 refine JDp 13 rfl (y_fieldAddr rfl) ?_
 refine JDe 14 rfl (e_store 0 rfl rfl rfl (vs := [.slice E3 xs.length d3]) rfl rfl rfl lE_ ⟨tok_, ?_⟩)
 refine JDd ?_
 refine RN.cast (l' := (b1, isC 43 [.slice E1 T.rs.length d1, .slice E2 T.ls.length d2, .slice E3 xs.length d3]) :: (b2, isC 43 [.slice none 0 0, .slice none 0 0, .slice none 0 0]) :: (le3 ++ (le2 ++ (le1 ++ r)))) rfl ?_
 refine AU1 ?_
 refine JC.loop (fun m f l' => ∃ i ys lg VH, i + m = xs.length ∧ FrOk f [(1, ptr b1), (2, ptr b2), (18, .slice E3 xs.length d3), (19, iv (xs.length : Int)), (20, iv (i : Int))] ∧ ys.length = i ∧ ys.map (·.1) = (xs.take i).map (·.1) ∧ (∀ y ∈ ys, ViaV W VH y) ∧ Lg.Own 39 3 (.slice E3 xs.length d3) xs.length ((ys ++ xs.drop i).flatMap enc3) lg ∧ l' = (b1, isC 43 [.slice E1 T.rs.length d1, .slice E2 T.ls.length d2, .slice E3 xs.length d3]) :: (b2, isC 43 [.slice none 0 0, .slice none 0 0, .slice none 0 0]) :: (lg ++ (VH ++ (le2 ++ (le1 ++ r))))) xs.length ?_ ?_
 ·exact ⟨0, [], le3, [], by omega, ⟨rfl, rfl, rfl, rfl, rfl, trivial⟩, rfl, rfl, (fun y hy => by cases hy), ho3, rfl⟩
 rintro m f l' ⟨i, ys, lg, VH, hmi, hf, hyl, hym, hyv, hog, rfl⟩
 refine JC.frame _ hf fun f' => ?_
 by_cases hi : i < xs.length
 ·obtain ⟨g, cap, he, hc1, hc2, rfl⟩ := De.own_some hog (by omega)
  injection he with he1 _ he3
  subst he1 he3
  obtain ⟨Av, cv, hxv, hsv⟩ := h4 _ (List.getElem_mem hi)
  have hen : enc3 (xs[i]'hi) = [sv (xs[i]'hi).1.fr, sv (xs[i]'hi).1.to_, .slice Av (xs[i]'hi).1.via.length cv] := by unfold enc3; rw [hxv]
  have hvl : (xs[i]'hi).1.via.length ≤ 1000 := hv _ (by rw [← hps]; exact List.mem_map_of_mem (List.getElem_mem hi))
  have hcl : ((ys ++ xs.drop i).flatMap enc3).length = xs.length * 3 := hog.1
  refine JC.cast (l' := (b1, isC 43 [.slice E1 T.rs.length d1, .slice E2 T.ls.length d2, .slice (some ⟨g, 0, none⟩) xs.length d3]) :: (b2, isC 43 [.slice none 0 0, .slice none 0 0, .slice none 0 0]) :: (g, isR 39 (d3 * 3) ((ys ++ xs.drop i).flatMap enc3)) :: (VH ++ (le2 ++ (le1 ++ r)))) rfl ?_
  refine AU0 ?_
  refine JL.read 2 rfl rfl (r_loadRA (v := enc3 (xs[i]'hi)) rfl (by rw [hcl]; omega) (get3 hi hyl)) ?_
  rw [hen]
  refine JLs (e_alloc fun b4 => ?_)
  refine AU0 ?_
  refine JLs (e_store 0 rfl rfl rfl (vs := [sv (xs[i]'hi).1.fr, sv (xs[i]'hi).1.to_, .slice Av (xs[i]'hi).1.via.length cv]) rfl rfl rfl lE_ ?_)
  refine JL.cast (l' := (b4, isC 39 [sv (xs[i]'hi).1.fr, sv (xs[i]'hi).1.to_, .slice Av (xs[i]'hi).1.via.length cv]) :: (b1, isC 43 [.slice E1 T.rs.length d1, .slice E2 T.ls.length d2, .slice (some ⟨g, 0, none⟩) xs.length d3]) :: (b2, isC 43 [.slice none 0 0, .slice none 0 0, .slice none 0 0]) :: (g, isR 39 (d3 * 3) ((ys ++ xs.drop i).flatMap enc3)) :: (VH ++ (le2 ++ (le1 ++ r)))) rfl ?_
  refine AU0 ?_
  refine JC.drawn 9 rfl mixed ?_
  refine JDp 0 rfl (y_fieldAddr rfl) ?_
  refine JDr 1 1 rfl rfl (r_load1 rfl rfl) ?_
  refine JDp 2 rfl y_mv ?_
  refine JDp 3 rfl (y_fieldAddr rfl) ?_
  refine JDr 4 0 rfl rfl (r_load1 rfl rfl) ?_
  refine JDe 5 rfl (e_call rfl rfl (CloneS_ok (by rw [List.length_map, Nat.mul_one]) (by omega) (fun u hu => by obtain ⟨y, _, rfl⟩ := List.mem_map.1 hu; rfl) (hsv.1.mono fun e he => by simp [he]) hsv.2.2) ?_)
  rintro v l' ⟨le4, ho4, rfl⟩
  obtain ⟨E4, d4, rfl, hs4⟩ := SlV.own (W := W) ho4
  refine ⟨tok_, ?_⟩
  refine JD.perm (l' := (b4, isC 39 [sv (xs[i]'hi).1.fr, sv (xs[i]'hi).1.to_, .slice Av (xs[i]'hi).1.via.length cv]) :: (b1, isC 43 [.slice E1 T.rs.length d1, .slice E2 T.ls.length d2, .slice (some ⟨g, 0, none⟩) xs.length d3]) :: (b2, isC 43 [.slice none 0 0, .slice none 0 0, .slice none 0 0]) :: (g, isR 39 (d3 * 3) ((ys ++ xs.drop i).flatMap enc3)) :: (VH ++ (le4 ++ (le2 ++ (le1 ++ r))))) prm_ ?_
  refine JDp 6 rfl (y_index (j := i) rfl rfl hi) ?_
  refine JDp 7 rfl (y_fieldAddr rfl) ?_
  refine JDe 8 rfl (e_storeR 3 rfl (o := 0 + i * 3 + 2) (n := 1) (v := .slice E4 (xs[i]'hi).1.via.length d4) rfl rfl rfl (Array.all_eq_true_iff_forall_mem.2 fun u hu => by cases List.mem_singleton.1 (Array.mem_toList_iff.2 hu); rfl) (by rw [hcl]; omega) ⟨tok_, ?_⟩)
  refine JDd ?_
  refine RN.cast (l' := (b4, isC 39 [sv (xs[i]'hi).1.fr, sv (xs[i]'hi).1.to_, .slice Av (xs[i]'hi).1.via.length cv]) :: (b1, isC 43 [.slice E1 T.rs.length d1, .slice E2 T.ls.length d2, .slice (some ⟨g, 0, none⟩) xs.length d3]) :: (b2, isC 43 [.slice none 0 0, .slice none 0 0, .slice none 0 0]) :: (g, isR 39 (d3 * 3) (((ys ++ xs.drop i).flatMap enc3).take (0 + i * 3 + 2) ++ [.slice E4 (xs[i]'hi).1.via.length d4] ++ ((ys ++ xs.drop i).flatMap enc3).drop (0 + i * 3 + 2 + 1))) :: (VH ++ (le4 ++ (le2 ++ (le1 ++ r))))) rfl ?_
  rw [put3 hi hyl]
  refine RN.sub (List.sublist_cons_self _ _) ?_
  refine AU0 ?_
  refine RN.loop (m' := m - 1) (by omega) ⟨i + 1, ys ++ [((xs[i]'hi).1, .slice E4 (xs[i]'hi).1.via.length d4)], _, VH ++ le4, by omega, ⟨rfl, rfl, rfl, rfl, rfl, trivial⟩, by rw [List.length_append, hyl]; rfl, ?_, ?_, ⟨?_, .inr ⟨g, d3, rfl, hc1, hc2, rfl⟩⟩, ?_⟩
  ·rw [List.map_append, hym, List.take_succ_eq_append_getElem hi, List.map_append]; rfl
  ·intro y hy
   rcases List.mem_append.1 hy with hy | hy
   ·exact ViaV.mono (hyv y hy) fun e he => List.mem_append_left _ he
   ·cases List.mem_singleton.1 hy
    exact ⟨E4, d4, rfl, hs4.mono fun e he => List.mem_append_right _ he⟩
  ·rw [← put3 hi hyl, List.length_append, List.length_append, List.length_take, List.length_drop, hcl]
   simp only [List.length_singleton]
   omega
  ·simp only [List.append_assoc]; rfl
 ·obtain rfl : xs.length = i := by omega
  rw [List.drop_of_length_le (Nat.le_refl _), List.append_nil] at hog
  rw [List.take_of_length_le (Nat.le_refl _), hps] at hym
  refine AU1 ?_
  refine JLs (e_store 1 rfl rfl rfl (vs := [.slice E1 T.rs.length d1, .slice E2 T.ls.length d2, .slice E3 xs.length d3]) rfl rfl rfl lE_ ?_)
  refine JL.cast (l' := (b1, isC 43 [.slice E1 T.rs.length d1, .slice E2 T.ls.length d2, .slice E3 xs.length d3]) :: (b2, isC 43 [.slice E1 T.rs.length d1, .slice E2 T.ls.length d2, .slice E3 xs.length d3]) :: (lg ++ (VH ++ (le2 ++ (le1 ++ r))))) rfl ?_
  refine AU0 ?_
  refine JC.perm (l' := (b1, isC 43 [.slice E1 T.rs.length d1, .slice E2 T.ls.length d2, .slice E3 xs.length d3]) :: (b2, isC 43 [.slice E1 T.rs.length d1, .slice E2 T.ls.length d2, .slice E3 xs.length d3]) :: ((lg ++ (VH ++ (le2 ++ le1))) ++ r)) (by simp only [List.append_assoc]; exact List.Perm.refl _) ?_
  have hxy : xs.length = ys.length := hyl.symm
  refine JC.ret (ret_cell rfl rfl 1 rfl rfl rfl (List.sublist_append_right [_, _] _) ⟨_, _, _, _, rfl, ⟨E1, d1, E2, d2, E3, d3, ys, by rw [hxy], hym, hs1.mono fun e he => by simp [he], hs2.mono fun e he => by simp [he], ?_, fun y hy => (hyv y hy).mono fun e he => by simp [he]⟩, rfl⟩)
  rw [← hxy]
  obtain ⟨E3', d3', he, hs3'⟩ := SlV.own (W := W) hog
  injection he with he1 _ he3
  subst he1 he3
  exact hs3'.mono fun e he => by simp [he]
set_option maxHeartbeats 4000000 in
theorem copiedW_ok {T : Topo} {vs : List Value} {W : World} {r : List Ent} (hT : TopoV W r vs T) (hr : T.rs.length ≤ 1000) (hl : T.ls.length ≤ 1000) (hp : T.ps.length ≤ 1000) (hv : ∀ p ∈ T.ps, p.via.length ≤ 1000) :
  Tr Pg 33 #[.agg vs.toArray] W r fun v l' => ∃ u1 u2 u3 TH, v = .agg #[u1, u2, u3] ∧ TopoV W TH [u1, u2, u3] T ∧ l' = TH ++ r := by
 obtain ⟨A1, c1, A2, c2, A3, c3, xs, rfl, hps, h1, h2, h3, h4⟩ := hT
 have hxl : xs.length ≤ 1000 := by have := congrArg List.length hps; rw [List.length_map] at this; omega
 refine Tr.of_code (args := [_]) Tryz.func33 rfl Tryz.ntmps33 lE_ ?_
 refine AU0 ?_
 refine JLs (e_box (cs := [.slice A1 T.rs.length c1, .slice A2 T.ls.length c2, .slice A3 xs.length c3]) rfl rfl fun b1 => ?_)
 refine JLs (e_alloc fun b2 => ?_)
 refine JL.perm (l' := (b1, isC 43 [.slice A1 T.rs.length c1, .slice A2 T.ls.length c2, .slice A3 xs.length c3]) :: (b2, isC 43 [.slice none 0 0, .slice none 0 0, .slice none 0 0]) :: r) prm_ ?_
 refine AU0 ?_
 refine JC.drawn 15 rfl mixed ?_
 refine JDp 0 rfl (y_fieldAddr rfl) ?_
 refine JDr 1 0 rfl rfl (r_load1 rfl rfl) ?_
 refine JDp 3 rfl (y_fieldAddr rfl) ?_
 refine JDr 4 0 rfl rfl (r_load1 rfl rfl) ?_
 refine JDp 6 rfl (y_fieldAddr rfl) ?_
 refine JDr 7 0 rfl rfl (r_load1 rfl rfl) ?_
 refine JDe 2 rfl (e_call rfl rfl (CloneS_ok (by rw [List.length_map, Nat.mul_one]) (by omega) (fun u hu => by obtain ⟨y, _, rfl⟩ := List.mem_map.1 hu; rfl) (h1.1.mono fun e he => by simp [he]) h1.2.2) ?_)
 rintro v l' ⟨le1, ho1, rfl⟩
 obtain ⟨E1, d1, rfl, hs1⟩ := SlV.own (W := W) ho1
 refine ⟨tok_, ?_⟩
 refine JD.perm (l' := (b1, isC 43 [.slice A1 T.rs.length c1, .slice A2 T.ls.length c2, .slice A3 xs.length c3]) :: (b2, isC 43 [.slice none 0 0, .slice none 0 0, .slice none 0 0]) :: (le1 ++ r)) prm_ ?_
 refine JDp 9 rfl (y_fieldAddr rfl) ?_
 refine JDe 5 rfl (e_call rfl rfl (CloneL_ok (by rw [row_len enc2 enc2_len]) (by omega) (enc2_one _) (h2.1.mono fun e he => by simp [he]) h2.2.2) ?_)
 rintro v l' ⟨le2, ho2, rfl⟩
 obtain ⟨E2, d2, rfl, hs2⟩ := SlV.own (W := W) ho2
 refine ⟨tok_, ?_⟩
 refine JD.perm (l' := (b1, isC 43 [.slice A1 T.rs.length c1, .slice A2 T.ls.length c2, .slice A3 xs.length c3]) :: (b2, isC 43 [.slice none 0 0, .slice none 0 0, .slice none 0 0]) :: (le2 ++ (le1 ++ r))) prm_ ?_
 refine JDe 8 rfl (e_call rfl rfl (CloneW_ok (len3 xs) (by omega) (fun u hu => by obtain ⟨y, hy, hu⟩ := List.mem_flatMap.1 hu; obtain ⟨Av, cv, hxv, -⟩ := h4 y hy; unfold enc3 at hu; rw [hxv] at hu; simp only [List.mem_cons, List.not_mem_nil, or_false] at hu; rcases hu with rfl | rfl | rfl <;> rfl) (h3.1.mono fun e he => by simp [he]) h3.2.2) ?_)
 rintro v l' ⟨le3, ho3, rfl⟩
 obtain ⟨E3, d3, rfl, hs3⟩ := SlV.own (W := W) ho3
 refine ⟨tok_, ?_⟩
 refine JD.perm (l' := (b1, isC 43 [.slice A1 T.rs.length c1, .slice A2 T.ls.length c2, .slice A3 xs.length c3]) :: (b2, isC 43 [.slice none 0 0, .slice none 0 0, .slice none 0 0]) :: (le3 ++ (le2 ++ (le1 ++ r)))) prm_ ?_
 refine JDe 10 rfl (e_store 0 rfl rfl rfl (vs := [.slice E1 T.rs.length d1]) rfl rfl rfl lE_ ⟨tok_, ?_⟩)
 refine JDp 11 rfl (y_fieldAddr rfl) ?_
 refine JDe 12 rfl (e_store 0 rfl rfl rfl (vs := [.slice E2 T.ls.length d2]) rfl rfl rfl lE_ ⟨tok_, ?_⟩)
 refine JDp 13 rfl (y_fieldAddr rfl) ?_
 refine JDe 14 rfl (e_store 0 rfl rfl rfl (vs := [.slice E3 xs.length d3]) rfl rfl rfl lE_ ⟨tok_, ?_⟩)
 refine JDd ?_
 refine RN.cast (l' := (b1, isC 43 [.slice E1 T.rs.length d1, .slice E2 T.ls.length d2, .slice E3 xs.length d3]) :: (b2, isC 43 [.slice none 0 0, .slice none 0 0, .slice none 0 0]) :: (le3 ++ (le2 ++ (le1 ++ r)))) rfl ?_
 refine AU1 ?_
 refine JC.loop (fun m f l' => ∃ i ys lg VH, i + m = xs.length ∧ FrOk f [(1, ptr b1), (2, ptr b2), (18, .slice E3 xs.length d3), (19, iv (xs.length : Int)), (20, iv (i : Int))] ∧ ys.length = i ∧ ys.map (·.1) = (xs.take i).map (·.1) ∧ (∀ y ∈ ys, ViaV W VH y) ∧ Lg.Own 39 3 (.slice E3 xs.length d3) xs.length ((ys ++ xs.drop i).flatMap enc3) lg ∧ l' = (b1, isC 43 [.slice E1 T.rs.length d1, .slice E2 T.ls.length d2, .slice E3 xs.length d3]) :: (b2, isC 43 [.slice none 0 0, .slice none 0 0, .slice none 0 0]) :: (lg ++ (VH ++ (le2 ++ (le1 ++ r))))) xs.length ?_ ?_
 ·exact ⟨0, [], le3, [], by omega, ⟨rfl, rfl, rfl, rfl, rfl, trivial⟩, rfl, rfl, (fun y hy => by cases hy), ho3, rfl⟩
 rintro m f l' ⟨i, ys, lg, VH, hmi, hf, hyl, hym, hyv, hog, rfl⟩
 refine JC.frame _ hf fun f' => ?_
 by_cases hi : i < xs.length
 ·obtain ⟨g, cap, he, hc1, hc2, rfl⟩ := De.own_some hog (by omega)
  injection he with he1 _ he3
  subst he1 he3
  obtain ⟨Av, cv, hxv, hsv⟩ := h4 _ (List.getElem_mem hi)
  have hen : enc3 (xs[i]'hi) = [sv (xs[i]'hi).1.fr, sv (xs[i]'hi).1.to_, .slice Av (xs[i]'hi).1.via.length cv] := by unfold enc3; rw [hxv]
  have hvl : (xs[i]'hi).1.via.length ≤ 1000 := hv _ (by rw [← hps]; exact List.mem_map_of_mem (List.getElem_mem hi))
  have hcl : ((ys ++ xs.drop i).flatMap enc3).length = xs.length * 3 := hog.1
  refine JC.cast (l' := (b1, isC 43 [.slice E1 T.rs.length d1, .slice E2 T.ls.length d2, .slice (some ⟨g, 0, none⟩) xs.length d3]) :: (b2, isC 43 [.slice none 0 0, .slice none 0 0, .slice none 0 0]) :: (g, isR 39 (d3 * 3) ((ys ++ xs.drop i).flatMap enc3)) :: (VH ++ (le2 ++ (le1 ++ r)))) rfl ?_
  refine AU0 ?_
  refine JL.read 2 rfl rfl (r_loadRA (v := enc3 (xs[i]'hi)) rfl (by rw [hcl]; omega) (get3 hi hyl)) ?_
  rw [hen]
  refine JLs (e_alloc fun b4 => ?_)
  refine AU0 ?_
  refine JLs (e_store 0 rfl rfl rfl (vs := [sv (xs[i]'hi).1.fr, sv (xs[i]'hi).1.to_, .slice Av (xs[i]'hi).1.via.length cv]) rfl rfl rfl lE_ ?_)
  refine JL.cast (l' := (b4, isC 39 [sv (xs[i]'hi).1.fr, sv (xs[i]'hi).1.to_, .slice Av (xs[i]'hi).1.via.length cv]) :: (b1, isC 43 [.slice E1 T.rs.length d1, .slice E2 T.ls.length d2, .slice (some ⟨g, 0, none⟩) xs.length d3]) :: (b2, isC 43 [.slice none 0 0, .slice none 0 0, .slice none 0 0]) :: (g, isR 39 (d3 * 3) ((ys ++ xs.drop i).flatMap enc3)) :: (VH ++ (le2 ++ (le1 ++ r)))) rfl ?_
  refine AU0 ?_
  refine JC.drawn 9 rfl mixed ?_
  refine JDp 0 rfl (y_fieldAddr rfl) ?_
  refine JDr 1 1 rfl rfl (r_load1 rfl rfl) ?_
  refine JDp 2 rfl y_mv ?_
  refine JDp 3 rfl (y_fieldAddr rfl) ?_
  refine JDr 4 0 rfl rfl (r_load1 rfl rfl) ?_
  refine JDe 5 rfl (e_call rfl rfl (CloneS_ok (by rw [List.length_map, Nat.mul_one]) (by omega) (fun u hu => by obtain ⟨y, _, rfl⟩ := List.mem_map.1 hu; rfl) (hsv.1.mono fun e he => by simp [he]) hsv.2.2) ?_)
  rintro v l' ⟨le4, ho4, rfl⟩
  obtain ⟨E4, d4, rfl, hs4⟩ := SlV.own (W := W) ho4
  refine ⟨tok_, ?_⟩
  refine JD.perm (l' := (b4, isC 39 [sv (xs[i]'hi).1.fr, sv (xs[i]'hi).1.to_, .slice Av (xs[i]'hi).1.via.length cv]) :: (b1, isC 43 [.slice E1 T.rs.length d1, .slice E2 T.ls.length d2, .slice (some ⟨g, 0, none⟩) xs.length d3]) :: (b2, isC 43 [.slice none 0 0, .slice none 0 0, .slice none 0 0]) :: (g, isR 39 (d3 * 3) ((ys ++ xs.drop i).flatMap enc3)) :: (VH ++ (le4 ++ (le2 ++ (le1 ++ r))))) prm_ ?_
  refine JDp 6 rfl (y_index (j := i) rfl rfl hi) ?_
  refine JDp 7 rfl (y_fieldAddr rfl) ?_
  refine JDe 8 rfl (e_storeR 3 rfl (o := 0 + i * 3 + 2) (n := 1) (v := .slice E4 (xs[i]'hi).1.via.length d4) rfl rfl rfl (Array.all_eq_true_iff_forall_mem.2 fun u hu => by cases List.mem_singleton.1 (Array.mem_toList_iff.2 hu); rfl) (by rw [hcl]; omega) ⟨tok_, ?_⟩)
  refine JDd ?_
  refine RN.cast (l' := (b4, isC 39 [sv (xs[i]'hi).1.fr, sv (xs[i]'hi).1.to_, .slice Av (xs[i]'hi).1.via.length cv]) :: (b1, isC 43 [.slice E1 T.rs.length d1, .slice E2 T.ls.length d2, .slice (some ⟨g, 0, none⟩) xs.length d3]) :: (b2, isC 43 [.slice none 0 0, .slice none 0 0, .slice none 0 0]) :: (g, isR 39 (d3 * 3) (((ys ++ xs.drop i).flatMap enc3).take (0 + i * 3 + 2) ++ [.slice E4 (xs[i]'hi).1.via.length d4] ++ ((ys ++ xs.drop i).flatMap enc3).drop (0 + i * 3 + 2 + 1))) :: (VH ++ (le4 ++ (le2 ++ (le1 ++ r))))) rfl ?_
  rw [put3 hi hyl]
  refine RN.sub (List.sublist_cons_self _ _) ?_
  refine AU0 ?_
  refine RN.loop (m' := m - 1) (by omega) ⟨i + 1, ys ++ [((xs[i]'hi).1, .slice E4 (xs[i]'hi).1.via.length d4)], _, VH ++ le4, by omega, ⟨rfl, rfl, rfl, rfl, rfl, trivial⟩, by rw [List.length_append, hyl]; rfl, ?_, ?_, ⟨?_, .inr ⟨g, d3, rfl, hc1, hc2, rfl⟩⟩, ?_⟩
  ·rw [List.map_append, hym, List.take_succ_eq_append_getElem hi, List.map_append]; rfl
  ·intro y hy
   rcases List.mem_append.1 hy with hy | hy
   ·exact ViaV.mono (hyv y hy) fun e he => List.mem_append_left _ he
   ·cases List.mem_singleton.1 hy
    exact ⟨E4, d4, rfl, hs4.mono fun e he => List.mem_append_right _ he⟩
  ·rw [← put3 hi hyl, List.length_append, List.length_append, List.length_take, List.length_drop, hcl]
   simp only [List.length_singleton]
   omega
  ·simp only [List.append_assoc]; rfl
 ·obtain rfl : xs.length = i := by omega
  rw [List.drop_of_length_le (Nat.le_refl _), List.append_nil] at hog
  rw [List.take_of_length_le (Nat.le_refl _), hps] at hym
  refine AU1 ?_
  refine JLs (e_store 1 rfl rfl rfl (vs := [.slice E1 T.rs.length d1, .slice E2 T.ls.length d2, .slice E3 xs.length d3]) rfl rfl rfl lE_ ?_)
  refine JL.cast (l' := (b1, isC 43 [.slice E1 T.rs.length d1, .slice E2 T.ls.length d2, .slice E3 xs.length d3]) :: (b2, isC 43 [.slice E1 T.rs.length d1, .slice E2 T.ls.length d2, .slice E3 xs.length d3]) :: (lg ++ (VH ++ (le2 ++ (le1 ++ r))))) rfl ?_
  refine AU0 ?_
  refine JC.perm (l' := (b1, isC 43 [.slice E1 T.rs.length d1, .slice E2 T.ls.length d2, .slice E3 xs.length d3]) :: (b2, isC 43 [.slice E1 T.rs.length d1, .slice E2 T.ls.length d2, .slice E3 xs.length d3]) :: ((lg ++ (VH ++ (le2 ++ le1))) ++ r)) (by simp only [List.append_assoc]; exact List.Perm.refl _) ?_
  have hxy : xs.length = ys.length := hyl.symm
  refine JC.ret (ret_cell rfl rfl 1 rfl rfl rfl (List.sublist_append_right [_, _] _) ⟨_, _, _, _, rfl, ⟨E1, d1, E2, d2, E3, d3, ys, by rw [hxy], hym, hs1.mono fun e he => by simp [he], hs2.mono fun e he => by simp [he], ?_, fun y hy => (hyv y hy).mono fun e he => by simp [he]⟩, rfl⟩)
  rw [← hxy]
  obtain ⟨E3', d3', he, hs3'⟩ := SlV.own (W := W) hog
  injection he with he1 _ he3
  subst he1 he3
  exact hs3'.mono fun e he => by simp [he]
end Go.Proofs.YtbalcgjphkdecaaGreatDoor.To
namespace Go.Proofs.YtbalcgjphkdecaaGreatDoor.To
open Go.RowKit Go.Lg
set_option maxRecDepth 100000
theorem topo_le {T : Topo} (h : topoOk T = true) : T.rs.length ≤ 6 ∧ T.ls.length ≤ 20 ∧ T.ps.length ≤ 8 ∧ ∀ p ∈ T.ps, p.via.length ≤ 4 := by
 obtain ⟨k1, k2, k3, k4, k5, k6, k7, k8, k9, k10⟩ := topoOk_spec h
 exact ⟨by omega, by omega, by omega, fun p hp => (pathOk_spec (k9 p hp)).2.2.2.1⟩
attribute [local irreducible] JC JL JD RN RT Eff Yld YldIf Tr partsL okR splitL wordB joinD fit betweenS laidS viaS De.wrapB De.num De.clampI K Se.sealB Pa.byts Au.byts RP.byts Mg.byts Se.inc tillM
set_option maxHeartbeats 2000000 in
theorem ANew_ok {T : Topo} (hok : topoOk T = true) {p : P2} (hp : okP p) (hin : p.1 ∈ T.rs) {k : Nat} {s1 s2 s3 : Value} {rb : Nat} {RH r : List Ent} {bl : List RB} {W : World} (hR : RingB rb bl RH) (hbl : bl.map RB.it = [⟨p, 1, k⟩]) (hT : TopoV W r [s1, s2, s3] T) :
  Tr Pg 44 #[pv p, .agg #[s1, s2, s3], ptr rb, iv 0] W (RH ++ r) fun v l' => ∃ b H, v = .tuple #[ptr b, iv 0] ∧ AcB W T b ⟨p, k, []⟩ H ∧ l' = H ++ r := by
 obtain ⟨t1, t2, t3, t4⟩ := topo_le hok
 obtain ⟨A1, c1, A2, c2, A3, c3, xs, hvs, -, hr1, -⟩ := id hT
 obtain rfl : s1 = .slice A1 T.rs.length c1 := by injection hvs
 have hT' : TopoV W (RH ++ r) [.slice A1 T.rs.length c1, s2, s3] T := hT.mono fun e he => List.mem_append_right _ he
 refine Tr.of_code (args := [_, _, _, _]) Tryz.func44 rfl Tryz.ntmps44 lE_ ?_
 refine AU0 ?_
 refine JLs (e_box (cs := enc2 p) rfl rfl fun b4 => ?_)
 refine JLs (e_box (cs := [.slice A1 T.rs.length c1, s2, s3]) rfl rfl fun b5 => ?_)
 refine AU2 ?_
 refine JLs (e_call rfl rfl (IsPrinc_yes hp) ?_)
 rintro v l' ⟨rfl, rfl⟩
 refine AU1 ?_
 refine JLs (e_call rfl rfl (RIs_yes (hT'.mono fun e he => by simp [he]) hok) ?_)
 rintro v l' ⟨rfl, rfl⟩
 refine AU2 ?_
 refine JLs (e_call rfl rfl (ContainsS_ok p.1 rfl (by omega) (hr1.1.mono fun e he => by simp [he])) ?_)
 rintro v l' ⟨rfl, rfl⟩
 rw [decide_eq_true hin]
 refine AU0 ?_
 refine JC.drawn 10 rfl mixed ?_
 refine JDr 0 1 rfl rfl (r_loadA rfl lE_ rfl) ?_
 refine JDr 1 0 rfl rfl (r_loadA rfl lE_ rfl) ?_
 refine JDp 3 rfl y_mv ?_
 refine JDp 4 rfl y_mv ?_
 refine JDe 2 rfl (e_call rfl rfl (copiedA_ok (hT'.mono fun e he => by simp [he]) (by omega) (by omega) (by omega) fun p hp => by have := t4 p hp; omega) ?_)
 rintro v l' ⟨u1, u2, u3, TH, rfl, hT2, rfl⟩
 refine ⟨tok_, ?_⟩
 refine JD.perm (l' := (b5, isC 43 [.slice A1 T.rs.length c1, s2, s3]) :: (b4, isC 48 (enc2 p)) :: (RH ++ (TH ++ r))) prm_ ?_
 refine JDe 5 rfl (e_call rfl rfl PNew_ok ?_)
 rintro v l' ⟨sb, rfl, rfl⟩
 refine ⟨tok_, ?_⟩
 refine JDp 6 rfl (y_build (cells := ((AC.mk p u1 u2 u3 rb sb 0 0).cells).toArray) (by kernel_rfl)) ?_
 refine JDe 7 rfl (e_box (cs := (AC.mk p u1 u2 u3 rb sb 0 0).cells) rfl rfl fun b => ⟨tok_, ?_⟩)
 refine JDp 8 rfl y_as ?_
 refine JDp 9 rfl y_as ?_
 refine JDd ?_
 refine RN.cast (l' := acE b ⟨p, u1, u2, u3, rb, sb, 0, 0⟩ :: rpE sb nl :: (b5, isC 43 [.slice A1 T.rs.length c1, s2, s3]) :: (b4, isC 48 (enc2 p)) :: (RH ++ (TH ++ r))) rfl ?_
 refine AU0 ?_
 refine JC.sub (l' := acE b ⟨p, u1, u2, u3, rb, sb, 0, 0⟩ :: rpE sb nl :: (RH ++ (TH ++ r))) (List.Sublist.cons_cons _ (List.Sublist.cons_cons _ (List.sublist_append_right [_, _] _))) ?_
 refine JC.perm (l' := (acE b ⟨p, u1, u2, u3, rb, sb, 0, 0⟩ :: rpE sb nl :: (RH ++ TH)) ++ r) (by simp only [List.cons_append, List.append_assoc]; exact List.Perm.refl _) ?_
 exact JC.ret (RT.two rfl rfl (v := ptr b) (v' := iv 0) rfl rfl ⟨b, _, rfl, ⟨u1, u2, u3, TH, rb, RH, bl, sb, nl, 0, 0, hT2, hR, hbl, fun _ => rfl, rfl⟩, rfl⟩)
set_option maxHeartbeats 2000000 in
theorem KNew_ok {T : Topo} (hok : topoOk T = true) {R : S} (hin : R ∈ T.rs) {s1 s2 s3 : Value} {rb : Nat} {r : List Ent} {W : World} (hT : TopoV W r [s1, s2, s3] T) (its : List RI) :
  Tr Pg 41 #[sv R, .agg #[s1, s2, s3], ptr rb] W r fun v l' => ∃ kb u1 u2 u3 TH, v = .tuple #[ptr kb, iv 0] ∧ TopoV W TH [u1, u2, u3] T ∧ l' = kdcE kb rb u1 u2 u3 ⟨R, 0, 0, its⟩ :: (TH ++ r) := by
 obtain ⟨t1, t2, t3, t4⟩ := topo_le hok
 obtain ⟨A1, c1, A2, c2, A3, c3, xs, hvs, -, hr1, -⟩ := id hT
 obtain rfl : s1 = .slice A1 T.rs.length c1 := by injection hvs
 refine Tr.of_code (args := [_, _, _]) Tryz.func41 rfl Tryz.ntmps41 lE_ ?_
 refine AU0 ?_
 refine JLs (e_box (cs := [.slice A1 T.rs.length c1, s2, s3]) rfl rfl fun b4 => ?_)
 refine AU1 ?_
 refine JLs (e_call rfl rfl (RIs_yes (hT.mono fun e he => by simp [he]) hok) ?_)
 rintro v l' ⟨rfl, rfl⟩
 refine AU1 ?_
 refine JLs (e_call rfl rfl (ContainsS_ok R rfl (by omega) (hr1.1.mono fun e he => by simp [he])) ?_)
 rintro v l' ⟨rfl, rfl⟩
 rw [decide_eq_true hin]
 refine AU1 ?_
 refine JLs (e_call rfl rfl (copiedK_ok (hT.mono fun e he => by simp [he]) (by omega) (by omega) (by omega) fun p hp => by have := t4 p hp; omega) ?_)
 rintro v l' ⟨u1, u2, u3, TH, rfl, hT2, rfl⟩
 refine AU0 ?_
 refine JLp (y_build (cells := #[sv R, u1, u2, u3, ptr rb, iv ((0 : Nat) : Int), iv ((0 : Nat) : Int)]) (by kernel_rfl)) ?_
 refine JLs (e_box (cs := [sv R, u1, u2, u3, ptr rb, iv ((0 : Nat) : Int), iv ((0 : Nat) : Int)]) rfl rfl fun kb => ?_)
 refine AU0 ?_
 refine JC.sub (l' := kdcE kb rb u1 u2 u3 ⟨R, 0, 0, its⟩ :: (TH ++ r)) (List.Sublist.cons_cons _ (List.Sublist.append_left (List.sublist_cons_self _ _) _)) ?_
 exact JC.ret (RT.two rfl rfl (v := ptr kb) (v' := iv 0) rfl rfl ⟨kb, u1, u2, u3, TH, rfl, hT2, rfl⟩)
end Go.Proofs.YtbalcgjphkdecaaGreatDoor.To
namespace Go.Proofs.YtbalcgjphkdecaaGreatDoor.To
open Go.RowKit Go.Lg
set_option maxRecDepth 100000
structure KI where
 k : Int
 v : Int
 t : Nat
def KI.e (x : KI) : MapEntry := ⟨iv x.k, iv x.v, x.t⟩
def KI.p (x : KI) : Int × Int := (x.k, x.v)
def isMi (es : List (Int × Int)) : Obj → Prop := fun o => ∃ (xs : List KI) (c : Nat), xs.map KI.p = es ∧ (es.map (·.1)).Nodup ∧ o = .map (xs.map KI.e).toArray c
def ifind (k : Int) : List KI → Nat → Option (Nat × Value)
 | [], _ => none
 | x :: xs, i => if k = x.k then some (i, iv x.v) else ifind k xs (i + 1)
section
variable {P : Program} {ρ : Operand → Value} {d : Option Tmp} {ty : TypeId} {pos : String} {af : Array Edge} {gd : Option (Nat × Bool)} {W : World} {l : List Ent} {Ψ : Value → List Ent → Prop}
class KeyI (P : Program) (kt : Nat) : Prop where
 h : P.underlying kt = some (.int .i64)
theorem findNow_int (k : Int) : ∀ (xs : List KI) (i : Nat), Instr.findNow (.int .i64) (iv k) (xs.map KI.e) i = some (ifind k xs i)
 | [], i => rfl
 | x :: xs, i => by
  have ih := findNow_int k xs (i + 1)
  have hs : Instr.sameNow (.int .i64) (iv k) x.e.key = some (k == x.k) := by simp [Instr.sameNow, KI.e, iv]
  rw [List.map_cons, Instr.findNow, hs]
  unfold ifind
  by_cases h : k = x.k
  ·rw [if_pos h]
   have : (k == x.k) = true := by simpa using h
   rw [this]; rfl
  ·rw [if_neg h]
   have : (k == x.k) = false := by simpa using h
   rw [this]; exact ih
theorem run_findI {kt : TypeId} [hk : KeyI P kt] (k : Int) (xs : List KI) (w : World) : (Instr.findKey kt (iv k) (xs.map KI.e)).run P w = .ok (ifind k xs 0) w := by
 simp [Instr.findKey, run_underlying hk.h, findNow_int]
theorem run_checkI2 {kt : TypeId} [hk : KeyI P kt] (em : Bool) (k : Int) (q : Nat) (w : World) : (Instr.checkKey em (q + 1) kt (iv k)).run P w = .ok () w := by
 simp [Instr.checkKey, run_underlying hk.h, iv]
theorem run_checkI {kt : TypeId} [hk : KeyI P kt] (em : Bool) (k : Int) (w : World) : (Instr.checkKey em 10000 kt (iv k)).run P w = .ok () w := run_checkI2 em k 9999 w
theorem ifind_now (k : Int) : ∀ (xs : List KI) (i : Nat), (match ifind k xs i with | some (_, v) => v | none => iv 0) = iv (nowM (xs.map KI.p) k)
 | [], i => rfl
 | x :: xs, i => by
  have ih := ifind_now k xs (i + 1)
  have e1 : ifind k (x :: xs) i = if k = x.k then some (i, iv x.v) else ifind k xs (i + 1) := rfl
  rw [e1]
  by_cases h : k = x.k
  ·rw [if_pos h]
   unfold nowM
   rw [List.map_cons, List.find?_cons, show decide (x.p.1 = k) = true from decide_eq_true h.symm]
   rfl
  ·rw [if_neg h, ih]
   unfold nowM
   rw [List.map_cons, List.find?_cons, show decide (x.p.1 = k) = false from decide_eq_false fun e => h e.symm]
theorem r_lookupI {t k e : TypeId} {x y : Operand} {b0 : Nat} {es : List (Int × Int)} {n : Int} [ht : MapT P t k e] [hk : KeyI P k] (hz : ∀ w, (zeroValue e).run P w = .ok (iv 0) w) (hx : ρ x = .map (some b0)) (hy : ρ y = iv n) :
  YldIf P (At b0 (isMi es)) ⟨d, .lookup t x y false, ty, pos, af, gd⟩ ρ (iv (nowM es n)) := by
 rintro w ⟨_, hb, xs, c, rfl, -, rfl⟩
 have h1 : (Instr.lookup t (.map (some b0)) (iv n) false).run P w = .ok (iv (nowM (xs.map KI.p) n)) w := by
  rw [← ifind_now n xs 0]
  simp only [Instr.lookup, Sem.run_bind, run_underlying ht.h, Result.andThen_ok, MapKept.run_getObj_map hb, Sem.run_pure, run_checkI, run_findI]
  cases ifind n xs 0 with
  | none => simp [hz]
  | some r => simp
 simp only [execOp, hx, hy, Sem.run_bind, h1, Result.andThen_ok, Sem.run_pure]
theorem ifind_some (k : Int) : ∀ (xs : List KI) (i j : Nat) (v : Value), ifind k xs i = some (j, v) → ∃ q x, j = i + q ∧ xs[q]? = some x ∧ x.k = k
 | [], _, _, _, h => by simp [ifind] at h
 | x :: xs, i, j, v, h => by
  unfold ifind at h
  split at h
  ·next hc =>
   simp at h
   obtain ⟨rfl, rfl⟩ := h
   exact ⟨0, x, rfl, rfl, hc.symm⟩
  ·obtain ⟨q, y, h1, h2, h3⟩ := ifind_some k xs (i + 1) j v h
   exact ⟨q + 1, y, by omega, by simpa using h2, h3⟩
theorem ifind_none (k : Int) : ∀ (xs : List KI) (i : Nat), ifind k xs i = none → ∀ x ∈ xs, x.k ≠ k
 | [], _, _, x, hx => by cases hx
 | y :: ys, i, h, x, hx => by
  unfold ifind at h
  split at h
  ·cases h
  ·next hc =>
   rcases List.mem_cons.1 hx with rfl | hx
   ·exact fun e => hc e.symm
   ·exact ifind_none k ys (i + 1) h x hx
theorem set_any {xs : List KI} {k : Int} {q : Nat} {x : KI} (hq : xs[q]? = some x) (hk : x.k = k) : ((xs.map KI.p).any fun y => decide (y.1 = k)) = true :=
 List.any_eq_true.2 ⟨x.p, List.mem_map_of_mem (List.mem_of_getElem? hq), decide_eq_true hk⟩
theorem set_some {k z : Int} : ∀ {xs : List KI} {q : Nat} {x : KI}, ((xs.map KI.p).map (·.1)).Nodup → xs[q]? = some x → x.k = k →
  (xs.modify q fun y => { y with v := z }).map KI.p = (xs.map KI.p).map fun y => if y.1 = k then (k, z) else y
 | [], _, _, _, h, _ => by cases h
 | y :: ys, 0, x, hn, h, hk => by
  cases h
  have hn' := (List.nodup_cons.1 hn).1
  simp only [List.modify_zero_cons, List.map_cons]
  rw [if_pos (show y.p.1 = k from hk)]
  have e1 : (KI.mk y.k z y.t).p = (k, z) := by unfold KI.p; rw [← hk]
  rw [e1]
  refine congrArg (List.cons _) ?_
  rw [List.map_map]
  refine List.map_congr_left fun a ha => ?_
  show KI.p a = if (KI.p a).1 = k then (k, z) else KI.p a
  rw [if_neg fun e => hn' (by show (y.p).1 ∈ _; rw [show (y.p).1 = (a.p).1 from hk.trans e.symm]; exact List.mem_map_of_mem (f := fun x : Int × Int => x.1) (List.mem_map_of_mem ha))]
 | y :: ys, q + 1, x, hn, h, hk => by
  have hn' := List.nodup_cons.1 hn
  have ih := set_some (z := z) hn'.2 (by simpa using h) hk
  simp only [List.modify_succ_cons, List.map_cons]
  rw [ih, if_neg fun e => hn'.1 (by show (y.p).1 ∈ _; rw [show (y.p).1 = (x.p).1 from e.trans hk.symm]; exact List.mem_map_of_mem (f := fun x : Int × Int => x.1) (List.mem_map_of_mem (List.mem_of_getElem? (by simpa using h))))]
theorem setCk_nodup {es : List (Int × Int)} {k z : Int} (h : (es.map (·.1)).Nodup) : ((setCk es k z).map (·.1)).Nodup := by
 unfold setCk
 split
 ·have : ((es.map fun x => if x.1 = k then (k, z) else x).map (·.1)) = es.map (·.1) := by
   rw [List.map_map]
   refine List.map_congr_left fun a _ => ?_
   show (if a.1 = k then (k, z) else a).1 = a.1
   split
   ·next e => exact e.symm
   ·rfl
  rw [this]; exact h
 ·next hn =>
  rw [List.map_append, List.nodup_append]
  refine ⟨h, by simp, fun a ha b hb => ?_⟩
  obtain ⟨y, hy, rfl⟩ := List.mem_map.1 ha
  cases List.mem_singleton.1 hb
  exact fun e => hn (List.any_eq_true.2 ⟨y, hy, decide_eq_true e⟩)
theorem isMi_set {w : World} {es : List (Int × Int)} {i b0 : Nat} (h : SH W l w) (he : l[i]? = some (b0, isMi es)) {o : Obj} {es' : List (Int × Int)} (ho : isMi es' o) {ob : Obj} (hb : w.heap[b0]? = some ob) : SH W (l.set i (b0, isMi es')) { w with heap := w.heap.setIfInBounds b0 o } :=
 h.set_ he (setB_ok w hb _) ho
theorem e_updateI {t k e : TypeId} {x y z : Operand} {b0 : Nat} {es : List (Int × Int)} {n v : Int} (i : Nat) (he : l[i]? = some (b0, isMi es)) [ht : MapT P t k e] [hk : KeyI P k] (hx : ρ x = .map (some b0)) (hy : ρ y = iv n) (hz : ρ z = iv v)
  (h : Ψ undef (l.set i (b0, isMi (setCk es n v)))) : Eff P W l ⟨d, .mapUpdate t x y z, ty, pos, af, gd⟩ ρ Ψ := by
 intro w hw
 obtain ⟨_, ob, hb, xs, c, hp, hn, rfl⟩ := hw.at_ he
 subst hp
 have h1 : ∃ o, (Instr.mapUpdate t (.map (some b0)) (iv n) (iv v)).run P w = .ok () { w with heap := w.heap.setIfInBounds b0 o } ∧ isMi (setCk (xs.map KI.p) n v) o := by
  simp only [Instr.mapUpdate, Sem.run_bind, run_underlying ht.h, Result.andThen_ok, MapKept.run_getObj_map hb, Sem.run_pure, run_checkI, run_findI]
  cases hf : ifind n xs 0 with
  | none =>
   simp only [MapKept.run_setObj_map _ hb]
   refine ⟨_, rfl, xs ++ [⟨n, v, c⟩], c + 1, ?_, setCk_nodup hn, by simp [KI.e]⟩
   have hno := ifind_none n xs 0 hf
   unfold setCk
   rw [if_neg fun hh => by
    obtain ⟨y, hy', hy2⟩ := List.any_eq_true.1 hh
    obtain ⟨q, hq, rfl⟩ := List.mem_map.1 hy'
    exact hno q hq (of_decide_eq_true hy2)]
   simp [KI.p]
  | some r =>
   obtain ⟨j, v0⟩ := r
   obtain ⟨q, x0, rfl, h2, h3⟩ := ifind_some n xs 0 j v0 hf
   rw [Nat.zero_add] at hf ⊢
   have hg : ((((xs.map KI.e).toArray)[q]?).map (·.key)).getD (iv n) = iv x0.k := by simp [h2, KI.e]
   have hs : Instr.sameBits 10000 (iv x0.k) (iv n) = true := by rw [h3]; simp [Instr.sameBits, iv]
   have hm : ((xs.map KI.e).toArray.modify q fun e => { e with key := iv n, val := iv v }) = (((xs.modify q fun x => { x with v := v }).map KI.e).toArray) := by
    apply Array.ext_getElem?
    intro q'
    rw [Array.getElem?_modify]
    simp only [List.getElem?_toArray, List.getElem?_map, List.getElem?_modify]
    by_cases hq : q = q'
    ·subst hq
     simp [h2, KI.e, ← h3]
    ·simp [hq]
   simp only [hg, Instr.keyThatStays, hs, if_true, Sem.run_pure, Sem.run_bind, Result.andThen_ok, MapKept.run_setObj_map _ hb, hm]
   refine ⟨_, rfl, _, c, ?_, setCk_nodup hn, rfl⟩
   rw [set_some hn h2 h3]
   unfold setCk
   rw [if_pos (set_any h2 h3)]
 obtain ⟨o, h1, ho⟩ := h1
 unfold OpW
 simp only [execOp, hx, hy, hz, Sem.run_bind, h1, Result.andThen_ok, Sem.run_pure]
 exact ⟨_, isMi_set hw he ho hb, h⟩
theorem e_makeI {t : TypeId} (h : ∀ b, Ψ (.map (some b)) ((b, isMi []) :: l)) : Eff P W l ⟨d, .makeMap t none, ty, pos, af, gd⟩ ρ Ψ :=
 e_new (ob := .map #[] 0) (p := isMi []) (v := fun b => .map (some b)) (fun w => by simp [execOp, Instr.makeMap, newObj, Sem.run]) ⟨[], 0, rfl, by simp, rfl⟩ h
end
instance : KeyI Pg 3 := ⟨by kernel_rfl⟩
instance : MapT Pg 70 3 3 := ⟨by kernel_rfl⟩
theorem zero_int (w : World) : (zeroValue 3).run Pg w = .ok (iv 0) w := by
 have h : (Pg.info? 3).bind (·.zero) = some (iv 0) := rfl
 obtain ⟨i, hi, hz⟩ := Option.bind_eq_some_iff.1 h
 simp [zeroValue, typeInfo, hi, hz]
end Go.Proofs.YtbalcgjphkdecaaGreatDoor.To
namespace Go.Proofs.YtbalcgjphkdecaaGreatDoor.Ne
open Go.RowKit Go.Lg
set_option maxRecDepth 100000
attribute [local irreducible] JC JL JD RN RT Eff Yld YldIf Tr
structure Pkt where
 f : Int
 t : Int
 bs : List UInt8
structure Pk where
 f : Int
 t : Int
 d : Value
 bs : List UInt8
def Pk.abs (p : Pk) : Pkt := ⟨p.f, p.t, p.bs⟩
def Pk.cells (p : Pk) : List Value := [.int .i64 p.f, .int .i64 p.t, p.d]
def pcs (l : List Pk) : List Value := l.flatMap Pk.cells
theorem pcs_len : ∀ l : List Pk, (pcs l).length = l.length * 3
 | [] => rfl
 | p :: l => by
  have := pcs_len l
  simp only [pcs, List.flatMap_cons, List.length_append, List.length_cons] at this ⊢
  rw [this]; simp only [Pk.cells, List.length_cons, List.length_nil]; omega
theorem pcs_append (l m : List Pk) : pcs (l ++ m) = pcs l ++ pcs m := by simp [pcs]
theorem pcs_get : ∀ (l : List Pk) (i : Nat) (p : Pk), l[i]? = some p → ((pcs l).drop (i * 3)).take 3 = p.cells
 | [], _, _, h => by simp at h
 | q :: l, 0, p, h => by
  obtain rfl : q = p := by simpa using h
  simp [pcs, Pk.cells]
 | q :: l, i + 1, p, h => by
  have := pcs_get l i p (by simpa using h)
  rw [show (i + 1) * 3 = i * 3 + 3 from by omega]
  simpa [pcs, Pk.cells] using this
def Dv (W : World) (r : List Ent) (d : Value) (bs : List UInt8) : Prop := ∃ A c, d = .slice A bs.length c ∧ bs.length ≤ 70368744177664 ∧ (A = none → bs.length = 0 ∧ c = 0) ∧ Src W r A (bs.map bv)
theorem Dv.mono {W : World} {r r' : List Ent} {d : Value} {bs : List UInt8} (h : Dv W r d bs) (hr : ∀ e ∈ r, e ∈ r') : Dv W r' d bs := by
 obtain ⟨A, c, h1, h2, h3, h4⟩ := h
 exact ⟨A, c, h1, h2, h3, h4.mono hr⟩
theorem Dv.own {W : World} {le : List Ent} {v : Value} {bs : List UInt8} {e : TypeId} (h : Lg.Own e 1 v bs.length (bs.map bv) le) (hm : bs.length ≤ 70368744177664) : Dv W le v bs := by
 obtain ⟨A, c, h1, h2, h3⟩ := h.src (W := W)
 refine ⟨A, c, h1, hm, fun hA => ?_, h2⟩
 subst hA
 rcases h.2 with ⟨q1, q2, _⟩ | ⟨g, cap, q1, _⟩
 ·rw [h1] at q1
  injection q1 with _ _ q3
  exact ⟨q2, q3⟩
 ·rw [h1] at q1
  injection q1 with q2
  cases q2
theorem copied_ok {p : Pk} {W : World} {r : List Ent} (h : Dv W r p.d p.bs) :
  Tr Pg 60 #[.agg p.cells.toArray] W r fun v l' => ∃ (v' : Value) (le : List Ent), v = .agg (Pk.mk p.f p.t v' p.bs).cells.toArray ∧ Lg.Own 5 1 v' p.bs.length (p.bs.map bv) le ∧ l' = le ++ r ∧ (v' = .slice none 0 0 ↔ p.d = .slice none 0 0) := by
 obtain ⟨A, c, h1, h2, h3, h4⟩ := h
 obtain ⟨f, t, d, bs⟩ := p
 simp only at h1 h2 h3 h4
 subst h1
 refine Tr.of_code (args := [_]) Tryz.func60 rfl Tryz.ntmps60 lE_ ?_
 refine AU0 ?_
 refine JLs (e_box rfl rfl fun b => ?_)
 refine JLs (e_alloc fun b2 => ?_)
 refine AU2 ?_
 refine JLs (e_call rfl rfl (Clone_ok rfl h2 (h4.mono fun e he => List.mem_cons_of_mem _ (List.mem_cons_of_mem _ he)) h3) ?_)
 rintro v l' ⟨le, ho, rfl, hn⟩
 obtain ⟨A', c', rfl, -, -⟩ := ho.src (W := W)
 refine JL.perm (l' := _ :: _ :: (le ++ r)) (perm_mid [_, _] le r).symm ?_
 refine AU2 ?_
 refine JLs (e_store 1 rfl rfl rfl rfl rfl rfl lE_ ?_)
 refine AU2 ?_
 refine JLs (e_store 0 rfl rfl rfl rfl rfl rfl lE_ ?_)
 refine AU2 ?_
 refine JC.ret (ret_cell rfl rfl 0 rfl rfl rfl (List.sublist_append_right [_, _] _) ?_)
 refine ⟨_, le, rfl, ho, rfl, ?_⟩
 rw [hn]
 constructor
 ·rintro rfl
  obtain ⟨q1, q2⟩ := h3 rfl
  simp [q1, q2]
 ·intro h
  injection h
end Go.Proofs.YtbalcgjphkdecaaGreatDoor.Ne
namespace Go.Proofs.YtbalcgjphkdecaaGreatDoor.Ne
open Go.RowKit Go.Lg
set_option maxRecDepth 100000
attribute [local irreducible] JC JL JD RN RT Eff Yld YldIf Tr
def Box (T : Nat) (W : World) (pb : Nat) (l s : List Pkt) (H : List Ent) : Prop :=
 ∃ (L S : List Pk) (vl vs : Value) (lel les pool : List Ent), L.map Pk.abs = l ∧ S.map Pk.abs = s ∧ H = (pb, isC T [vl, vs]) :: (lel ++ (les ++ pool)) ∧
  Lg.Own 64 3 vl L.length (pcs L) lel ∧ Lg.Own 64 3 vs S.length (pcs S) les ∧ (∀ p ∈ L, Dv W pool p.d p.bs) ∧ (∀ p ∈ S, Dv W pool p.d p.bs)
def ptr (b : Nat) : Value := .pointer (some ⟨b, 0, none⟩)
theorem New_ok (W : World) (r : List Ent) : Tr Pg 34 #[] W r fun v l' => ∃ pb, v = ptr pb ∧ ∃ H, Box 122 W pb [] [] H ∧ l' = H ++ r := by
 refine Tr.of_code (args := []) Tryz.func34 rfl Tryz.ntmps34 lE_ ?_
 repeat (first | refine JLp (y_build (cells := #[.slice none 0 0, .slice none 0 0]) rfl) ?_ | refine AS0 ?_)
 refine JLs (e_box rfl rfl fun b => ?_)
 refine AU0 ?_
 refine JC.ret (RT.one rfl rfl (by conv => lhs; whnf) ?_)
 exact ⟨b, rfl, _, ⟨[], [], _, _, [], [], [], rfl, rfl, rfl, Lg.Own.nil _ _, Lg.Own.nil _ _, by simp, by simp⟩, rfl⟩
def canSend (n : Nat) (bs : List UInt8) : Bool := decide (n < 32 ∧ 1 ≤ bs.length ∧ bs.length ≤ 2000)
theorem Send_ok {pb : Nat} {l s : List Pkt} {H r : List Ent} {W : World} {p : Pk} (hB : Box 122 W pb l s H) (hp : Dv W r p.d p.bs) (hs : s.length ≤ 1000001) :
  Tr Pg 26 #[ptr pb, .agg p.cells.toArray] W (H ++ r) fun v l' => v = .bool (canSend l.length p.bs) ∧
   ∃ H', Box 122 W pb (if canSend l.length p.bs then l ++ [p.abs] else l) (if canSend l.length p.bs then s ++ [p.abs] else s) H' ∧ l' = H' ++ r := by
 obtain ⟨L, S, vl, vs, lel, les, pool, rfl, rfl, rfl, h1, h2, h3, h4⟩ := hB
 obtain ⟨f, t, d, bs⟩ := p
 obtain ⟨A, c, e1, e2, e3, e4⟩ := id hp
 simp only at e1 e2 e3 e4 hp
 subst e1
 obtain ⟨A1, c1, rfl, -, -⟩ := h1.src (W := W)
 simp only [List.length_map] at hs ⊢
 simp only [List.cons_append, List.append_assoc]
 refine Tr.of_code (args := [_, _]) Tryz.func26 rfl Tryz.ntmps26 lE_ ?_
 refine AU0 ?_
 refine JLs (e_box rfl rfl fun b => ?_)
 by_cases c1 : 32 ≤ L.length
 ·have hc : canSend L.length bs = false := decide_eq_false (by omega)
  rw [hc]
  refine AU2 ?_
  refine JC.sub (List.sublist_cons_self _ _) (JC.ret (RT.one rfl rfl (by conv => lhs; whnf) ?_))
  exact ⟨rfl, _, ⟨L, S, _, _, lel, les, pool, rfl, rfl, rfl, h1, h2, h3, h4⟩, by simp⟩
 by_cases c2 : bs.length < 1
 ·have hc : canSend L.length bs = false := decide_eq_false (by omega)
  rw [hc]
  refine AU2 ?_
  refine JC.sub (List.sublist_cons_self _ _) (JC.ret (RT.one rfl rfl (by conv => lhs; whnf) ?_))
  exact ⟨rfl, _, ⟨L, S, _, _, lel, les, pool, rfl, rfl, rfl, h1, h2, h3, h4⟩, by simp⟩
 by_cases c3 : 2000 < bs.length
 ·have hc : canSend L.length bs = false := decide_eq_false (by omega)
  rw [hc]
  refine AU2 ?_
  refine JC.sub (List.sublist_cons_self _ _) (JC.ret (RT.one rfl rfl (by conv => lhs; whnf) ?_))
  exact ⟨rfl, _, ⟨L, S, _, _, lel, les, pool, rfl, rfl, rfl, h1, h2, h3, h4⟩, by simp⟩
 have hc : canSend L.length bs = true := decide_eq_true (by omega)
 rw [hc]
 refine AU2 ?_
 refine JC.drawn 12 rfl mixed ?_
 refine JDp 0 rfl y_mv ?_
 refine JDp 1 rfl y_mv ?_
 refine JDp 2 rfl (y_nilCheck rfl) ?_
 refine JDp 3 rfl (y_fieldAddr rfl) ?_
 refine JDr 4 1 rfl rfl (r_load1 rfl rfl) ?_
 refine JDr 5 0 rfl rfl (r_loadA rfl lE_ rfl) ?_
 refine JDe 6 rfl (e_call rfl rfl (copied_ok (p := ⟨f, t, _, bs⟩) (hp.mono fun e he => by simp [he])) ?_)
 rintro v l' ⟨v', le, rfl, ho, rfl, -⟩
 obtain ⟨A2, c2', rfl, -, -⟩ := ho.src (W := W)
 refine ⟨tok_, JD.perm (l' := _ :: _ :: (lel ++ (les ++ (pool ++ (le ++ r))))) (by simpa only [List.append_assoc, List.cons_append] using (perm_mid (_ :: _ :: (lel ++ (les ++ pool))) le r).symm) ?_⟩
 refine JDe 7 rfl (e_buildSlice (cells := (Pk.mk f t _ bs).cells) [.agg (Pk.mk f t _ bs).cells.toArray] rfl lE_ rfl (fun u hu => by cases List.mem_singleton.1 hu; rfl) rfl fun b3 => ⟨tok_, ?_⟩)
 refine JDe 8 rfl (e_appendP [_, _, _] lel rfl rfl h1 rfl (news := (Pk.mk f t _ bs).cells) rfl (Src.whole (List.mem_cons_self ..)) (List.all_eq_true.1 rfl) (by omega) (by unfold maxLen; omega) fun v1 le1 ho1 _ => ⟨tok_, ?_⟩)
 refine JDp 9 rfl (y_nilCheck rfl) ?_
 refine JDp 10 rfl (y_fieldAddr rfl) ?_
 refine JDe 11 rfl ?_
 obtain ⟨A3, c3', rfl, -, -⟩ := ho1.src (W := W)
 refine e_store 2 rfl rfl (by conv => lhs; whnf) (vs := [.slice A3 (L.length + 1) c3']) rfl rfl rfl lE_ ⟨tok_, ?_⟩
 refine JDd ?_
 refine RN.cast (by conv => lhs; try simp only [List.set_cons_succ, List.set_cons_zero, List.set, List.cons_append, List.nil_append, List.append_eq, List.append_assoc, spl, Nat.zero_add, Nat.add_zero]) ?_
 refine RN.sub (List.sublist_cons_self _ _) ?_
 refine AU2 ?_
 refine JC.drawn 12 rfl mixed ?_
 refine JDp 0 rfl y_mv ?_
 refine JDp 1 rfl y_mv ?_
 refine JDp 2 rfl (y_nilCheck rfl) ?_
 refine JDp 3 rfl (y_fieldAddr rfl) ?_
 refine JDr 4 1 rfl rfl (r_load1 rfl rfl) ?_
 refine JDr 5 0 rfl rfl (r_loadA rfl lE_ rfl) ?_
 refine JDe 6 rfl (e_call rfl rfl (copied_ok (p := ⟨f, t, _, bs⟩) (hp.mono fun e he => by simp [he])) ?_)
 rintro v l' ⟨v', le2, rfl, ho2, rfl, -⟩
 obtain ⟨A4, c4', rfl, -, -⟩ := ho2.src (W := W)
 refine ⟨tok_, JD.perm (l' := _ :: _ :: (le1 ++ (les ++ (pool ++ (le ++ (le2 ++ r)))))) (by simpa only [List.append_assoc, List.cons_append] using (perm_mid (_ :: _ :: (le1 ++ (les ++ (pool ++ le)))) le2 r).symm) ?_⟩
 refine JDe 7 rfl (e_buildSlice (cells := (Pk.mk f t _ bs).cells) [.agg (Pk.mk f t _ bs).cells.toArray] rfl lE_ rfl (fun u hu => by cases List.mem_singleton.1 hu; rfl) rfl fun b4 => ⟨tok_, ?_⟩)
 refine JDe 8 rfl (e_appendP ([_, _, _] ++ le1) les (by simp only [List.append_assoc, List.cons_append, List.nil_append]; rfl) rfl h2 rfl (news := (Pk.mk f t _ bs).cells) rfl (Src.whole (List.mem_cons_self ..)) (List.all_eq_true.1 rfl) (by omega) (by unfold maxLen; omega) fun v2 les1 hos _ => ⟨tok_, ?_⟩)
 refine JDp 9 rfl (y_nilCheck rfl) ?_
 refine JDp 10 rfl (y_fieldAddr rfl) ?_
 refine JDe 11 rfl ?_
 obtain ⟨A5, c5', rfl, -, -⟩ := hos.src (W := W)
 refine e_store 2 rfl rfl (by conv => lhs; whnf) (vs := [.slice A5 (S.length + 1) c5']) rfl rfl rfl lE_ ⟨tok_, ?_⟩
 refine JDd ?_
 refine RN.cast (by conv => lhs; try simp only [List.set_cons_succ, List.set_cons_zero, List.set, List.cons_append, List.nil_append, List.append_eq, List.append_assoc, spl, Nat.zero_add, Nat.add_zero]) ?_
 refine RN.sub (List.sublist_cons_self _ _) ?_
 refine AU2 ?_
 refine JC.sub (List.sublist_cons_self _ _) (JC.ret (RT.one rfl rfl (by conv => lhs; whnf) ?_))
 have m1 : ∀ e ∈ pool, e ∈ pool ++ (le ++ le2) := fun e he => by simp [he]
 refine ⟨rfl, _, ⟨L ++ [⟨f, t, .slice A2 bs.length c2', bs⟩], S ++ [⟨f, t, .slice A4 bs.length c4', bs⟩], .slice A3 (L.length + 1) c3', .slice A5 (S.length + 1) c5', le1, les1, pool ++ (le ++ le2), by simp [Pk.abs], by simp [Pk.abs], rfl, ?_, ?_, fun p hp => ?_, fun p hp => ?_⟩, ?_⟩
 ·simpa [pcs_append, pcs] using ho1
 ·simpa [pcs_append, pcs] using hos
 ·rcases List.mem_append.1 hp with hp | hp
  ·exact (h3 p hp).mono m1
  ·cases List.mem_singleton.1 hp
   exact (Dv.own ho e2).mono fun e he => by simp [he]
 ·rcases List.mem_append.1 hp with hp | hp
  ·exact (h4 p hp).mono m1
  ·cases List.mem_singleton.1 hp
   exact (Dv.own ho2 e2).mono fun e he => by simp [he]
 ·simp
end Go.Proofs.YtbalcgjphkdecaaGreatDoor.Ne
namespace Go.Proofs.YtbalcgjphkdecaaGreatDoor.Ne
open Go.RowKit Go.Lg
set_option maxRecDepth 100000
attribute [local irreducible] JC JL JD RN RT Eff Yld YldIf Tr
theorem Len_ok {pb : Nat} {l s : List Pkt} {H r : List Ent} {W : World} (hB : Box 122 W pb l s H) :
  Tr Pg 27 #[ptr pb] W (H ++ r) fun v l' => v = .int .i64 (l.length : Nat) ∧ l' = H ++ r := by
 obtain ⟨L, S, vl, vs, lel, les, pool, rfl, rfl, rfl, h1, h2, h3, h4⟩ := hB
 obtain ⟨A1, c1, rfl, -, -⟩ := h1.src (W := W)
 simp only [List.length_map, List.cons_append, List.append_assoc]
 refine Tr.of_code (args := [_]) Tryz.func27 rfl Tryz.ntmps27 lE_ ?_
 refine AU1 ?_
 exact JC.ret (RT.one rfl rfl (by conv => lhs; whnf) ⟨rfl, rfl⟩)
theorem Lg.Own.some {e : TypeId} {sz n : Nat} {v : Value} {xs : List Value} {le : List Ent} (h : Lg.Own e sz v n xs le) (hn : 0 < n) : ∃ g cap, v = .slice (.some ⟨g, 0, .none⟩) n cap ∧ n ≤ cap ∧ cap ≤ maxLen ∧ le = [(g, isR e (cap * sz) xs)] := by
 rcases h.2 with ⟨_, h0, _⟩ | h
 ·omega
 ·exact h
theorem At_yes {pb : Nat} {l s : List Pkt} {H r : List Ent} {W : World} {i : Nat} {q : Pkt} (hB : Box 122 W pb l s H) (hi : l[i]? = .some q) :
  Tr Pg 51 #[ptr pb, .int .i64 (i : Int)] W (H ++ r) fun v l' => ∃ v' le, v = .tuple #[.agg (Pk.mk q.f q.t v' q.bs).cells.toArray, .bool true] ∧
   Lg.Own 5 1 v' q.bs.length (q.bs.map bv) le ∧ q.bs.length ≤ 70368744177664 ∧ l' = le ++ (H ++ r) := by
 obtain ⟨L, S, vl, vs, lel, les, pool, rfl, rfl, rfl, h1, h2, h3, h4⟩ := hB
 rw [List.getElem?_map] at hi
 obtain ⟨p, hp, rfl⟩ := Option.map_eq_some_iff.1 hi
 have hlt : i < L.length := (List.getElem?_eq_some_iff.1 hp).1
 have hlen := pcs_len L
 obtain ⟨g, cap, rfl, hc1, hc2, rfl⟩ := Lg.Own.some h1 (by omega)
 have hd := h3 p (List.mem_of_getElem? hp)
 have hq := pcs_get L i p hp
 simp only [List.cons_append, List.append_assoc, List.nil_append]
 refine Tr.of_code (args := [_, _]) Tryz.func51 rfl Tryz.ntmps51 lE_ ?_
 refine AU0 ?_
 refine JLs (e_alloc fun b => ?_)
 refine AU2 ?_
 refine JL.read 2 rfl rfl (r_loadRA (v := p.cells) (by conv => lhs; whnf) (by omega) (by rw [Nat.zero_add]; exact hq)) ?_
 refine JLs (e_call rfl rfl (copied_ok (hd.mono fun e he => by simp [he])) ?_)
 rintro v l' ⟨v', le, rfl, ho, rfl, -⟩
 obtain ⟨A2, c2, rfl, -, -⟩ := ho.src (W := W)
 refine JL.perm (l' := _ :: (le ++ _)) (perm_mid [_] le _).symm ?_
 refine JLs (e_store 0 rfl rfl (by conv => lhs; whnf) (vs := Pk.cells ⟨p.f, p.t, _, p.bs⟩) rfl rfl rfl lE_ ?_)
 refine JL.cast (by conv => lhs; try simp only [List.set_cons_succ, List.set_cons_zero, List.set, List.cons_append, List.nil_append, List.append_eq, List.append_assoc, spl, Nat.zero_add, Nat.add_zero]) ?_
 refine AU1 ?_
 refine JC.ret (ret_cell2 rfl rfl 0 rfl rfl rfl (by conv => lhs; whnf) (List.sublist_cons_self _ _) ?_)
 obtain ⟨A, c, _, e2, _⟩ := hd
 exact ⟨_, le, rfl, ho, e2, rfl⟩
end Go.Proofs.YtbalcgjphkdecaaGreatDoor.Ne
namespace Go.Proofs.YtbalcgjphkdecaaGreatDoor.Ne
open Go.RowKit Go.Lg
set_option maxRecDepth 100000
attribute [local irreducible] JC JL JD RN RT Eff Yld YldIf Tr
theorem pcs_take (l : List Pk) : ∀ i : Nat, (pcs l).take (i * 3) = pcs (l.take i) := by
 induction l with
 | nil => intro i; simp [pcs]
 | cons p l ih =>
  intro i
  cases i with
  | zero => simp [pcs]
  | succ i =>
   rw [show (i + 1) * 3 = i * 3 + 3 from by omega]
   simpa [pcs, Pk.cells] using ih i
theorem pcs_drop (l : List Pk) : ∀ i : Nat, (pcs l).drop (i * 3) = pcs (l.drop i) := by
 induction l with
 | nil => intro i; simp [pcs]
 | cons p l ih =>
  intro i
  cases i with
  | zero => simp [pcs]
  | succ i =>
   rw [show (i + 1) * 3 = i * 3 + 3 from by omega]
   simpa [pcs, Pk.cells] using ih i
theorem pcs_one (l : List Pk) (h : ∀ p ∈ l, ∃ A n c, p.d = .slice A n c) : ∀ u ∈ pcs l, u.oneCell' = true := by
 intro u hu
 obtain ⟨p, hp, hu⟩ := List.mem_flatMap.1 hu
 obtain ⟨A, n, c, hd⟩ := h p hp
 simp only [Pk.cells, hd, List.mem_cons, List.not_mem_nil, or_false] at hu
 rcases hu with rfl | rfl | rfl <;> rfl
theorem Delete_ok {L : List Pk} {g cap i : Nat} {W : World} {r : List Ent} (hi : i < L.length) (hc : L.length ≤ cap) (hd : ∀ p ∈ L, ∃ A n c, p.d = .slice A n c) :
  Tr Pg 52 #[.slice (some ⟨g, 0, none⟩) L.length cap, .int .i64 (i : Int), .int .i64 ((i + 1 : Nat) : Int)] W ((g, isR 64 (cap * 3) (pcs L)) :: r) fun v l' =>
   v = .slice (some ⟨g, 0, none⟩) (L.length - 1) cap ∧ l' = (g, isR 64 (cap * 3) (pcs (L.eraseIdx i))) :: r := by
 have hlen := pcs_len L
 refine Tr.of_code (args := [_, _, _]) Tryz.func52 rfl Tryz.ntmps52 lE_ ?_
 repeat (first | refine JLp (y_slice3 rfl rfl rfl rfl (by omega) (by omega) (by omega)) ?_ | refine AS0 ?_)
 refine JC.drawn 8 rfl mixed ?_
 refine JDp 0 rfl y_mv ?_
 refine JDp 1 rfl y_mv ?_
 refine JDp 2 rfl (y_sliceTo rfl rfl (by omega)) ?_
 refine JDp 3 rfl y_mv ?_
 refine JDp 4 rfl y_mv ?_
 refine JDp 5 rfl (y_sliceFrom rfl rfl (by omega) (by omega)) ?_
 refine JDe 6 rfl (e_appendRoom 0 rfl rfl rfl (news := pcs (L.drop (i + 1))) (by rw [pcs_len, List.length_drop]) ?_ (pcs_one _ fun p hp => hd p (List.mem_of_mem_drop hp)) (by omega) (by omega) (by omega) ⟨tok_, ?_⟩)
 ·by_cases h0 : L.length = i + 1
  ·rw [List.drop_eq_nil_of_le (by omega)]
   exact Src.nil ..
  ·rw [if_neg (by omega)]
   refine Src.row (List.mem_cons_self ..) _ fun j u hu => ?_
   rw [← pcs_drop, List.getElem?_drop] at hu
   simpa using hu
 refine JDp 7 rfl y_as ?_
 refine JDd ?_
 refine RN.cast (by conv => lhs; try simp only [List.set_cons_succ, List.set_cons_zero, List.set, List.cons_append, List.nil_append, List.append_eq, List.append_assoc, spl, Nat.zero_add, Nat.add_zero]) ?_
 have e1 : i + (L.length - (i + 1)) = L.length - 1 := by omega
 have e2 : (pcs L).take (i * 3) ++ (pcs (L.drop (i + 1)) ++ (pcs L).drop ((i + (L.length - (i + 1))) * 3)) = pcs (L.eraseIdx i) ++ pcs (L.drop (L.length - 1)) := by
  rw [e1, pcs_take, pcs_drop, ← List.append_assoc, ← pcs_append, List.eraseIdx_eq_take_drop_succ]
 have e3 : (L.eraseIdx i).length = L.length - 1 := by rw [List.length_eraseIdx, if_pos hi]
 have e4 : (L.drop (L.length - 1)).length = 1 := by rw [List.length_drop]; omega
 rw [e2, e1]
 repeat (first | refine JLp (y_sliceIn rfl rfl rfl (by omega) (by omega) (by omega)) ?_ | refine AS0 ?_)
 refine JLs (e_clear 0 rfl (by conv => lhs; whnf) (by omega) (by rw [List.length_append, pcs_len, pcs_len, e3, e4]; omega) (List.all_eq_true.1 rfl) ?_)
 refine JL.cast (by conv => lhs; try simp only [List.set_cons_succ, List.set_cons_zero, List.set, List.cons_append, List.nil_append, List.append_eq, List.append_assoc, spl, Nat.zero_add, Nat.add_zero]) ?_
 refine JL.weak (p' := isR 64 (cap * 3) (pcs (L.eraseIdx i))) [] rfl (fun o ho => isR_take ?_ ho) ?_
 ·have e5 : (pcs (L.eraseIdx i)).length = (L.length - 1) * 3 := by rw [pcs_len, e3]
  rw [List.take_append_of_le_length (by rw [List.length_take, List.length_append, e5]; omega), List.take_take, Nat.min_eq_left (by omega), List.take_append_of_le_length (Nat.le_refl _), List.take_length]
 refine AU0 ?_
 exact JC.ret (RT.one rfl rfl (by conv => lhs; whnf) ⟨rfl, rfl⟩)
end Go.Proofs.YtbalcgjphkdecaaGreatDoor.Ne
namespace Go.Proofs.YtbalcgjphkdecaaGreatDoor.Ne
open Go.RowKit Go.Lg
set_option maxRecDepth 100000
attribute [local irreducible] JC JL JD RN RT Eff Yld YldIf Tr
theorem Dv.slice {W : World} {r : List Ent} {d : Value} {bs : List UInt8} (h : Dv W r d bs) : ∃ A n c, d = .slice A n c := by
 obtain ⟨A, c, h, _⟩ := h
 exact ⟨A, _, c, h⟩
theorem Pull_yes {pb : Nat} {l s : List Pkt} {H r : List Ent} {W : World} {i : Nat} {q : Pkt} (hB : Box 122 W pb l s H) (hi : l[i]? = some q) (hbig : l.length ≤ 100000) :
  Tr Pg 20 #[ptr pb, .int .i64 (i : Int)] W (H ++ r) fun v l' => ∃ v' le, v = .tuple #[.agg (Pk.mk q.f q.t v' q.bs).cells.toArray, .bool true] ∧
   Lg.Own 5 1 v' q.bs.length (q.bs.map bv) le ∧ q.bs.length ≤ 70368744177664 ∧ ∃ H', Box 122 W pb (l.eraseIdx i) s H' ∧ l' = le ++ (H' ++ r) := by
 have hB' := hB
 obtain ⟨L, S, vl, vs, lel, les, pool, rfl, rfl, rfl, h1, h2, h3, h4⟩ := hB'
 have hlt : i < L.length := by have := (List.getElem?_eq_some_iff.1 hi).1; simpa using this
 have hlen := pcs_len L
 obtain ⟨g, cap, rfl, hc1, hc2, rfl⟩ := Lg.Own.some h1 (by omega)
 rw [List.length_map] at hbig
 refine Tr.of_code (args := [_, _]) Tryz.func20 rfl Tryz.ntmps20 lE_ ?_
 refine AU0 ?_
 refine JLs (e_alloc fun b => ?_)
 refine AU1 ?_
 refine JLs (e_call rfl rfl (Tr.perm (l' := ((pb, isC 122 [.slice (some ⟨g, 0, none⟩) L.length cap, vs]) :: ([(g, isR 64 (cap * 3) (pcs L))] ++ (les ++ pool))) ++ ((b, isC 64 [.int .i64 0, .int .i64 0, .slice none 0 0]) :: r)) prm_ (At_yes hB hi)) ?_)
 rintro v l' ⟨v', le, rfl, ho, hm, rfl⟩
 obtain ⟨A2, c2, rfl, -, -⟩ := ho.src (W := W)
 refine JL.perm (l' := (b, isC 64 [.int .i64 0, .int .i64 0, .slice none 0 0]) :: (pb, isC 122 [.slice (some ⟨g, 0, none⟩) L.length cap, vs]) :: (g, isR 64 (cap * 3) (pcs L)) :: (les ++ (pool ++ (le ++ r)))) prm_ ?_
 refine AU0 ?_
 refine JLs (e_alloc fun b2 => ?_)
 refine AU0 ?_
 refine JLs (e_store 0 rfl rfl (by conv => lhs; whnf) (vs := [.int .i64 q.f, .int .i64 q.t, .slice A2 q.bs.length c2]) rfl rfl rfl lE_ ?_)
 refine JL.cast (by conv => lhs; try simp only [List.set_cons_succ, List.set_cons_zero, List.set, List.cons_append, List.nil_append, List.append_eq, List.append_assoc, spl, Nat.zero_add, Nat.add_zero]) ?_
 repeat (first | refine JLp (y_add rfl rfl (c := ((i + 1 : Nat) : Int)) (by rw [wrap_add (by omega) (by omega)]; omega)) ?_ | refine AS3 ?_)
 refine JLs (e_call rfl rfl (Tr.perm (l' := (g, isR 64 (cap * 3) (pcs L)) :: (b2, isC 64 [.int .i64 q.f, .int .i64 q.t, .slice A2 q.bs.length c2]) :: (b, isC 64 [.int .i64 0, .int .i64 0, .slice none 0 0]) :: (pb, isC 122 [.slice (some ⟨g, 0, none⟩) L.length cap, vs]) :: (les ++ (pool ++ (le ++ r)))) prm_ (Delete_ok hlt hc1 fun p hp => (h3 p hp).slice)) ?_)
 rintro v l' ⟨rfl, rfl⟩
 refine AU0 ?_
 refine JLs (e_store 3 rfl rfl (by conv => lhs; whnf) (vs := [_]) rfl rfl rfl lE_ ?_)
 refine JL.cast (by conv => lhs; try simp only [List.set_cons_succ, List.set_cons_zero, List.set, List.cons_append, List.nil_append, List.append_eq, List.append_assoc, spl, Nat.zero_add, Nat.add_zero]) ?_
 refine AU3 ?_
 refine JLs (e_store 2 rfl rfl (by conv => lhs; whnf) (vs := [.int .i64 q.f, .int .i64 q.t, .slice A2 q.bs.length c2]) rfl rfl rfl lE_ ?_)
 refine JL.cast (by conv => lhs; try simp only [List.set_cons_succ, List.set_cons_zero, List.set, List.cons_append, List.nil_append, List.append_eq, List.append_assoc, spl, Nat.zero_add, Nat.add_zero]) ?_
 refine AU3 ?_
 refine JC.perm (l' := (b2, isC 64 [.int .i64 q.f, .int .i64 q.t, .slice A2 q.bs.length c2]) :: (b, isC 64 [.int .i64 q.f, .int .i64 q.t, .slice A2 q.bs.length c2]) :: (le ++ ((pb, isC 122 [.slice (some ⟨g, 0, none⟩) (L.length - 1) cap, vs]) :: (g, isR 64 (cap * 3) (pcs (L.eraseIdx i))) :: (les ++ (pool ++ r))))) prm_ ?_
 refine JC.ret (ret_cell2 rfl rfl 1 rfl rfl rfl (by conv => lhs; whnf) (List.sublist_append_right [_, _] _) ?_)
 have e3 : (L.eraseIdx i).length = L.length - 1 := by rw [List.length_eraseIdx, if_pos hlt]
 refine ⟨_, le, rfl, ho, hm, (pb, isC 122 [.slice (some ⟨g, 0, none⟩) (L.length - 1) cap, vs]) :: ([(g, isR 64 (cap * 3) (pcs (L.eraseIdx i)))] ++ (les ++ pool)), ⟨L.eraseIdx i, S, _, _, _, les, pool, ?_, rfl, rfl, ?_, h2, fun p hp => h3 p (List.mem_of_mem_eraseIdx hp), h4⟩, by simp⟩
 ·simp [List.eraseIdx_eq_take_drop_succ, List.map_take, List.map_drop]
 ·rw [e3]
  exact ⟨by rw [pcs_len, e3], .inr ⟨g, cap, rfl, by omega, hc2, rfl⟩⟩
end Go.Proofs.YtbalcgjphkdecaaGreatDoor.Ne
namespace Go.Proofs.YtbalcgjphkdecaaGreatDoor.To
open Go.RowKit Go.Lg
set_option maxRecDepth 100000
def Objs {β α : Type} (P : β → α → List Ent → Prop) : List β → List α → List Ent → Prop
 | [], [], H => H = []
 | b :: bs, x :: xs, H => ∃ H1 H2, P b x H1 ∧ Objs P bs xs H2 ∧ H = H1 ++ H2
 | _, _, _ => False
theorem Objs.len {β α : Type} {P : β → α → List Ent → Prop} : ∀ {bs : List β} {xs : List α} {H : List Ent}, Objs P bs xs H → bs.length = xs.length
 | [], [], _, _ => rfl
 | [], _ :: _, _, h => h.elim
 | _ :: _, [], _, h => h.elim
 | _ :: bs, _ :: xs, _, ⟨_, _, _, h, _⟩ => congrArg (· + 1) h.len
theorem Objs.get {β α : Type} {P : β → α → List Ent → Prop} : ∀ {bs : List β} {xs : List α} {H : List Ent} {i : Nat} {x : α}, Objs P bs xs H → xs[i]? = some x →
  ∃ b HA H1 HB, bs[i]? = some b ∧ P b x H1 ∧ H = HA ++ (H1 ++ HB) ∧ ∀ x' H1', P b x' H1' → Objs P bs (xs.set i x') (HA ++ (H1' ++ HB))
 | [], [], _, _, _, _, h => by simp at h
 | [], _ :: _, _, _, _, h, _ => h.elim
 | _ :: _, [], _, _, _, h, _ => h.elim
 | b :: bs, x :: xs, _, 0, y, ⟨H1, H2, h1, h2, h3⟩, hi => by
  cases hi
  exact ⟨b, [], H1, H2, rfl, h1, h3, fun x' H1' h => ⟨H1', H2, h, h2, rfl⟩⟩
 | b :: bs, x :: xs, _, i + 1, y, ⟨H1, H2, h1, h2, h3⟩, hi => by
  obtain ⟨c, HA, H1', HB, e1, e2, e3, e4⟩ := h2.get (i := i) (x := y) (by simpa using hi)
  refine ⟨c, H1 ++ HA, H1', HB, by simpa using e1, e2, by rw [h3, e3, List.append_assoc], fun x' H1'' h => ?_⟩
  exact ⟨H1, _, h1, e4 x' H1'' h, by rw [List.append_assoc]⟩
theorem Objs.snoc {β α : Type} {P : β → α → List Ent → Prop} : ∀ {bs : List β} {xs : List α} {H H1 : List Ent} {b : β} {x : α}, Objs P bs xs H → P b x H1 → Objs P (bs ++ [b]) (xs ++ [x]) (H ++ H1)
 | [], [], _, H1, b, x, h, hp => by cases h; exact ⟨H1, [], hp, rfl, by simp⟩
 | [], _ :: _, _, _, _, _, h, _ => h.elim
 | _ :: _, [], _, _, _, _, h, _ => h.elim
 | c :: bs, y :: xs, _, H1, b, x, ⟨Ha, Hb, h1, h2, h3⟩, hp => ⟨Ha, Hb ++ H1, h1, h2.snoc hp, by rw [h3, List.append_assoc]⟩
def KdcB (W : World) (T : Topo) (q : Nat × Nat) (k : KdcS) (H : List Ent) : Prop := ∃ t1 t2 t3 RH TH bl, TopoV W TH [t1, t2, t3] T ∧ RingB q.1 bl RH ∧ bl.map RB.it = k.its ∧ k.its.length ≤ 1000 ∧ H = kdcE q.2 q.1 t1 t2 t3 k :: (RH ++ TH)
structure WL where
 t1A : Option Addr
 t1c : Nat
 t2 : Value
 t3 : Value
 TH : List Ent
 rA : Option Addr
 rc : Nat
 rl : List Ent
 kA : Option Addr
 kc : Nat
 kl : List Ent
 kid : List (Nat × Nat)
 KH : List Ent
 cA : Option Addr
 cc : Nat
 cl : List Ent
 cid : List Nat
 CH : List Ent
 sA : Option Addr
 sc : Nat
 sl : List Ent
 aA : Option Addr
 ac : Nat
 al : List Ent
 aid : List Nat
 AH : List Ent
 nb : Nat
 NH : List Ent
 ss : List Ne.Pkt
 mb : Nat
 sb : Nat
 sm : Bool
 acA : Option Addr
 acc : Nat
 acl : List Ent
 acs : List (AccS × Value)
 AccH : List Ent
 isA : Option Addr
 isc : Nat
 isx : List Value
 isl : List Ent
 ob : Nat
def WL.c (L : WL) (w : WS) : List Value := [.slice L.t1A w.T.rs.length L.t1c, L.t2, L.t3, .slice L.rA w.kd.length L.rc, .slice L.kA w.kd.length L.kc, .slice L.cA w.cl.length L.cc, .slice L.sA w.sv_.length L.sc, .slice L.aA w.ac.length L.ac, ptr L.nb, .map (some L.mb), iv w.dr, ptr L.sb, .slice L.acA w.acc.length L.acc, .slice L.isA w.iss L.isc, nl, .map (some L.ob)]
def wE (b : Nat) (L : WL) (w : WS) : Ent := (b, isC 81 (L.c w))
def spE (b : Nat) (m : Bool) : Ent := (b, isC 161 (Sp.kst (List.replicate 16 0) m))
def pkN (x : Int × Int × MS) : Ne.Pkt := ⟨x.1, x.2.1, x.2.2.mg.byts⟩
def acc39 (x : AccS × Value) : List Value := accC x.1 x.2
structure WOk (W : World) (w : WS) (L : WL) : Prop where
 tt : topoOk w.T = true
 t : TopoV W L.TH [.slice L.t1A w.T.rs.length L.t1c, L.t2, L.t3] w.T
 r : Lg.Own 100 1 (.slice L.rA w.kd.length L.rc) w.kd.length (L.kid.map fun q => ptr q.1) L.rl
 k : Lg.Own 106 1 (.slice L.kA w.kd.length L.kc) w.kd.length (L.kid.map fun q => ptr q.2) L.kl
 kh : Objs (KdcB W w.T) L.kid w.kd L.KH
 c : Lg.Own 52 1 (.slice L.cA w.cl.length L.cc) w.cl.length (L.cid.map ptr) L.cl
 ch : Objs (ClB W) L.cid w.cl L.CH
 s : Lg.Own 48 2 (.slice L.sA w.sv_.length L.sc) w.sv_.length (w.sv_.flatMap enc2) L.sl
 a : Lg.Own 87 1 (.slice L.aA w.ac.length L.ac) w.ac.length (L.aid.map ptr) L.al
 ah : Objs (AcB W w.T) L.aid w.ac L.AH
 n : Ne.Box 122 W L.nb (w.net.map pkN) L.ss L.NH
 ns : L.ss.length = w.seen
 sn : w.seen ≤ 1000001
 kn : w.kd.length ≤ 6
 kr : w.kd.length ≤ w.T.rs.length
 cn : w.cl.length ≤ 3
 an : w.ac.length ≤ 3
 svn : w.sv_.length ≤ 3
 acn : w.acc.length ≤ 1000001
 isn : w.iss ≤ 1000001
 ac : Lg.Own 57 39 (.slice L.acA w.acc.length L.acc) w.acc.length (L.acs.flatMap acc39) L.acl
 acs : L.acs.map (·.1) = w.acc
 acv : ∀ x ∈ L.acs, ∃ A c, x.2 = .slice A x.1.tr.length c ∧ SlV W L.AccH A x.1.tr.length c (x.1.tr.map sv)
 is_ : Lg.Own 212 9 (.slice L.isA w.iss L.isc) w.iss L.isx L.isl
def WL.H (L : WL) : List Ent := L.TH ++ (L.rl ++ (L.kl ++ (L.KH ++ (L.cl ++ (L.CH ++ (L.sl ++ (L.al ++ (L.AH ++ (L.NH ++ (L.acl ++ (L.AccH ++ L.isl)))))))))))
def mE (L : WL) (w : WS) : Ent := (L.mb, isMi w.ck)
def WorldB (W : World) (b : Nat) (w : WS) (H : List Ent) : Prop := ∃ L, WOk W w L ∧ H = wE b L w :: mE L w :: spE L.sb L.sm :: L.H
attribute [local irreducible] JC JL JD RN RT Eff Yld YldIf Tr partsL okR splitL wordB joinD fit betweenS laidS viaS De.wrapB De.num De.clampI K Se.sealB Pa.byts Au.byts RP.byts Mg.byts Se.inc tillM Sp.kst
theorem place_ok {n f m : Int} (h1 : -1000000000 ≤ n ∧ n ≤ 1000000000) (h2 : 0 ≤ f ∧ f ≤ 1000) {W : World} {l : List Ent} : Tr Pg 56 #[iv n, iv f, iv m] W l fun v l' => v = .tuple #[iv (n - f), .bool (decide (f ≤ n) && decide (n - f < m))] ∧ l' = l := by
 refine Tr.of_code (args := [_, _, _]) Tryz.func56 rfl Tryz.ntmps56 lE_ ?_
 by_cases ha : f ≤ n
 ·by_cases hb : n - f < m
  ·refine AU0 ?_
   exact JC.ret (RT.two rfl rfl (v := iv (n - f)) (v' := .bool true) rfl rfl ⟨by rw [decide_eq_true ha, decide_eq_true hb]; rfl, rfl⟩)
  ·refine AU0 ?_
   exact JC.ret (RT.two rfl rfl (v := iv (n - f)) (v' := .bool false) rfl rfl ⟨by rw [decide_eq_true ha, decide_eq_false hb]; rfl, rfl⟩)
 ·refine AU0 ?_
  exact JC.ret (RT.two rfl rfl (v := iv (n - f)) (v' := .bool false) rfl rfl ⟨by rw [decide_eq_false ha]; rfl, rfl⟩)
theorem nRealm_ok {b : Nat} {L : WL} {w : WS} {n : Int} (h1 : -1000000000 ≤ n ∧ n ≤ 1000000000) {W : World} {l : List Ent} (h : wE b L w ∈ l) : Tr Pg 47 #[ptr b, iv n] W l fun v l' => v = .tuple #[iv (n - 0), .bool (decide (0 ≤ n) && decide (n - 0 < (w.kd.length : Int)))] ∧ l' = l := by
 obtain ⟨i, hi⟩ := List.mem_iff_getElem?.1 h
 unfold wE at hi
 refine Tr.of_code (args := [_, _]) Tryz.func47 rfl Tryz.ntmps47 lE_ ?_
 refine AU0 ?_
 refine JL.read i hi rfl (r_load1 rfl rfl) ?_
 refine AU0 ?_
 refine JLs (e_call rfl rfl (place_ok (f := 0) h1 (by decide)) ?_)
 rintro v l' ⟨rfl, rfl⟩
 refine AU0 ?_
 exact JC.ret (RT.two rfl rfl (v := iv (n - 0)) (v' := .bool (decide (0 ≤ n) && decide (n - 0 < (w.kd.length : Int)))) rfl rfl ⟨rfl, rfl⟩)
theorem nClient_ok {b : Nat} {L : WL} {w : WS} {n : Int} (h1 : -1000000000 ≤ n ∧ n ≤ 1000000000) {W : World} {l : List Ent} (h : wE b L w ∈ l) : Tr Pg 45 #[ptr b, iv n] W l fun v l' => v = .tuple #[iv (n - 100), .bool (decide (100 ≤ n) && decide (n - 100 < (w.cl.length : Int)))] ∧ l' = l := by
 obtain ⟨i, hi⟩ := List.mem_iff_getElem?.1 h
 unfold wE at hi
 refine Tr.of_code (args := [_, _]) Tryz.func45 rfl Tryz.ntmps45 lE_ ?_
 refine AU0 ?_
 refine JL.read i hi rfl (r_load1 rfl rfl) ?_
 refine AU0 ?_
 refine JLs (e_call rfl rfl (place_ok (f := 100) h1 (by decide)) ?_)
 rintro v l' ⟨rfl, rfl⟩
 refine AU0 ?_
 exact JC.ret (RT.two rfl rfl (v := iv (n - 100)) (v' := .bool (decide (100 ≤ n) && decide (n - 100 < (w.cl.length : Int)))) rfl rfl ⟨rfl, rfl⟩)
theorem nServer_ok {b : Nat} {L : WL} {w : WS} {n : Int} (h1 : -1000000000 ≤ n ∧ n ≤ 1000000000) {W : World} {l : List Ent} (h : wE b L w ∈ l) : Tr Pg 23 #[ptr b, iv n] W l fun v l' => v = .tuple #[iv (n - 200), .bool (decide (200 ≤ n) && decide (n - 200 < (w.ac.length : Int)))] ∧ l' = l := by
 obtain ⟨i, hi⟩ := List.mem_iff_getElem?.1 h
 unfold wE at hi
 refine Tr.of_code (args := [_, _]) Tryz.func23 rfl Tryz.ntmps23 lE_ ?_
 refine AU0 ?_
 refine JL.read i hi rfl (r_load1 rfl rfl) ?_
 refine AU0 ?_
 refine JLs (e_call rfl rfl (place_ok (f := 200) h1 (by decide)) ?_)
 rintro v l' ⟨rfl, rfl⟩
 refine AU0 ?_
 exact JC.ret (RT.two rfl rfl (v := iv (n - 200)) (v' := .bool (decide (200 ≤ n) && decide (n - 200 < (w.ac.length : Int)))) rfl rfl ⟨rfl, rfl⟩)
end Go.Proofs.YtbalcgjphkdecaaGreatDoor.To
namespace Go.Proofs.YtbalcgjphkdecaaGreatDoor.To
open Go.RowKit Go.Lg
set_option maxRecDepth 100000
theorem K_eq (i : Nat) : K i = Sp.stm (Sp.words (List.replicate 16 0)) (BitVec.ofNat 64 i <<< 32) 32 := rfl
theorem conv_dr (n : Nat) : IntKind.u64.wrap (((n + 1 : Nat) : Int) - 1) = ((BitVec.ofNat 64 n).toNat : Int) := by
 rw [show ((n + 1 : Nat) : Int) - 1 = (n : Int) by omega, wrap_u rfl, BitVec.toNat_ofNat]; rfl
attribute [local irreducible] JC JL JD RN RT Eff Yld YldIf Tr partsL okR splitL wordB joinD fit betweenS laidS viaS De.wrapB De.num De.clampI K Se.sealB Pa.byts Au.byts RP.byts Mg.byts Se.inc tillM Sp.kst
theorem isNode_yes {b : Nat} {L : WL} {w : WS} {n : Int} (hk : w.kd.length ≤ 6) (hc : w.cl.length ≤ 3) (ha : w.ac.length ≤ 3) (h1 : 100 ≤ n ∧ n < 100 + w.cl.length ∨ 200 ≤ n ∧ n < 200 + w.ac.length) {W : World} {l : List Ent} (h : wE b L w ∈ l) : Tr Pg 46 #[ptr b, iv n] W l fun v l' => v = .bool true ∧ l' = l := by
 have hn : -1000000000 ≤ n ∧ n ≤ 1000000000 := by omega
 refine Tr.of_code (args := [_, _]) Tryz.func46 rfl Tryz.ntmps46 lE_ ?_
 refine AU0 ?_
 refine JLs (e_call rfl rfl (nRealm_ok hn h) ?_)
 rintro v l' ⟨rfl, rfl⟩
 rw [show (decide (0 ≤ n) && decide (n - 0 < (w.kd.length : Int))) = false by rw [Bool.and_eq_false_iff]; exact .inr (decide_eq_false (by omega))]
 refine AU0 ?_
 refine JLs (e_call rfl rfl (nClient_ok hn h) ?_)
 rintro v l' ⟨rfl, rfl⟩
 by_cases hq : n < 100 + w.cl.length
 ·rw [show (decide (100 ≤ n) && decide (n - 100 < (w.cl.length : Int))) = true by rw [Bool.and_eq_true]; exact ⟨decide_eq_true (by omega), decide_eq_true (by omega)⟩]
  refine AU0 ?_
  refine JLs (e_call rfl rfl (nServer_ok hn h) ?_)
  rintro v l' ⟨rfl, rfl⟩
  rw [show (decide (200 ≤ n) && decide (n - 200 < (w.ac.length : Int))) = false by rw [Bool.and_eq_false_iff]; exact .inl (decide_eq_false (by omega))]
  refine AU0 ?_
  exact JC.ret (RT.one rfl rfl (v := .bool true) rfl ⟨rfl, rfl⟩)
 ·rw [show (decide (100 ≤ n) && decide (n - 100 < (w.cl.length : Int))) = false by rw [Bool.and_eq_false_iff]; exact .inr (decide_eq_false (by omega))]
  refine AU0 ?_
  refine JLs (e_call rfl rfl (nServer_ok hn h) ?_)
  rintro v l' ⟨rfl, rfl⟩
  rw [show (decide (200 ≤ n) && decide (n - 200 < (w.ac.length : Int))) = true by rw [Bool.and_eq_true]; exact ⟨decide_eq_true (by omega), decide_eq_true (by omega)⟩]
  refine AU0 ?_
  exact JC.ret (RT.one rfl rfl (v := .bool true) rfl ⟨rfl, rfl⟩)
theorem WNet_ok {b : Nat} {L : WL} {w : WS} {W : World} {l : List Ent} (h : wE b L w ∈ l) : Tr Pg 13 #[ptr b] W l fun v l' => v = ptr L.nb ∧ l' = l := by
 obtain ⟨i, hi⟩ := List.mem_iff_getElem?.1 h
 unfold wE at hi
 refine Tr.of_code (args := [_]) Tryz.func13 rfl Tryz.ntmps13 lE_ ?_
 refine AU0 ?_
 refine JL.read i hi rfl (r_load1 rfl rfl) ?_
 refine AU0 ?_
 exact JC.ret (RT.one rfl rfl (v := ptr L.nb) rfl ⟨rfl, rfl⟩)
theorem WClient_ok {b : Nat} {L : WL} {w : WS} {W : World} (hw : WOk W w L) {j : Nat} (hj : j < w.cl.length) {l : List Ent} (h : wE b L w ∈ l) (hcl : ∀ e ∈ L.cl, e ∈ l) : Tr Pg 14 #[ptr b, iv (j : Int)] W l fun v l' => (∃ q, v = ptr q) ∧ l' = l := by
 obtain ⟨i, hi⟩ := List.mem_iff_getElem?.1 h
 unfold wE at hi
 have hcn := hw.cn
 obtain ⟨g, cap, he, h1, h2, h3⟩ := De.own_some hw.c (by omega)
 injection he with he1 _ he3
 have hci : L.cid.length = w.cl.length := hw.ch.len
 obtain ⟨q, hq⟩ : ∃ q, L.cid[j]? = some q := ⟨_, List.getElem?_eq_getElem (by omega)⟩
 obtain ⟨i2, hi2⟩ := List.mem_iff_getElem?.1 (hcl _ (by rw [h3]; exact List.mem_singleton_self _))
 refine Tr.of_code (args := [_, _]) Tryz.func14 rfl Tryz.ntmps14 lE_ ?_
 refine AU0 ?_
 refine JL.read i hi rfl (r_load1 rfl rfl) ?_
 refine AU0 ?_
 refine JL.read i hi rfl (r_load1 (v := .slice (some ⟨g, 0, none⟩) w.cl.length cap) rfl (by rw [← he1, ← he3]; rfl)) ?_
 repeat (first | refine JLp (y_index (j := j) rfl rfl hj) ?_ | refine AS0 ?_)
 refine JL.read i2 hi2 rfl (r_loadR1 rfl (by rw [List.getElem?_map, Nat.zero_add, Nat.mul_one, hq]; rfl)) ?_
 refine AU0 ?_
 exact JC.ret (RT.one rfl rfl (v := ptr q) rfl ⟨⟨q, rfl⟩, rfl⟩)
set_option maxHeartbeats 2000000 in
theorem draw_ok {b sb : Nat} {m : Bool} {L : WL} {w : WS} (hd : w.dr ≤ 1000000) (hsb : L.sb = sb) {W : World} {r : List Ent} : Tr Pg 40 #[ptr b] W (wE b L w :: spE sb m :: r) fun v l' => v = .agg ((K w.dr).map bv).toArray ∧ l' = wE b L { w with dr := w.dr + 1 } :: spE sb true :: r := by
 have hi := inc_nat (n := w.dr) (by omega)
 subst hsb
 unfold wE spE
 refine Tr.of_code (args := [_]) Tryz.func40 rfl Tryz.ntmps40 lE_ ?_
 refine AU0 ?_
 refine JLs (e_alloc fun b2 => ?_)
 refine AU0 ?_
 refine JLs (e_call rfl rfl (Se.Add64_ok (o := 10) (x := (w.dr : Int)) 1 rfl rfl) ?_)
 rintro v l' ⟨rfl, rfl⟩
 rw [hi]
 refine JL.cast (l' := _ :: (b, isC 81 (L.c { w with dr := w.dr + 1 })) :: (L.sb, isC 161 (Sp.kst (List.replicate 16 0) m)) :: r) rfl ?_
 repeat (first | refine JLp (y_conv (c := ((BitVec.ofNat 64 w.dr).toNat : Int)) rfl (conv_dr _)) ?_ | refine JLp (y_shl64 (a := BitVec.ofNat 64 w.dr) (n := 32) rfl rfl (by decide)) ?_ | refine AS0 ?_)
 refine JL.read 1 rfl rfl (r_load1 rfl rfl) ?_
 repeat (first | refine JLp (y_shl64 (a := BitVec.ofNat 64 w.dr) (n := 32) rfl rfl (by decide)) ?_ | refine AS0 ?_)
 refine JLs (e_call rfl rfl (Tr.perm (l' := (L.sb, isC 161 (Sp.kst (List.replicate 16 0) m)) :: (_ :: (b, isC 81 (L.c { w with dr := w.dr + 1 })) :: r)) (perm_mid [_, _] [_] r) (Sp.Stream_ok rfl m (BitVec.ofNat 64 w.dr <<< 32) 32 (by decide) (by decide))) ?_)
 rintro v l' ⟨le, ho, rfl⟩
 rw [← K_eq] at ho
 obtain ⟨g, cap, rfl, h1, h2, rfl⟩ := De.own_some ho (by decide)
 repeat (first | refine JLp (y_toArr rfl (Nat.le_refl _)) ?_ | refine AS0 ?_)
 refine JL.read 0 rfl rfl (r_loadRA (v := ck (kf (K w.dr))) rfl (by rw [List.length_map, K_len]; decide) (by rw [List.drop_zero, List.take_of_length_le (by rw [List.length_map, K_len]; exact Nat.le_refl _), ck_eq (K_len _)])) ?_
 refine JLs (e_store 2 rfl rfl rfl (vs := ck (kf (K w.dr))) rfl rfl rfl lE_ ?_)
 refine JL.perm (l' := (b2, isC 55 (ck (kf (K w.dr)))) :: (b, isC 81 (L.c { w with dr := w.dr + 1 })) :: (L.sb, isC 161 (Sp.kst (List.replicate 16 0) true)) :: (g, isR 5 (cap * 1) ((K w.dr).map bv)) :: r) (by refine List.Perm.trans (List.Perm.refl ((g, isR 5 (cap * 1) ((K w.dr).map bv)) :: (L.sb, isC 161 (Sp.kst (List.replicate 16 0) true)) :: (b2, isC 55 (ck (kf (K w.dr)))) :: (b, isC 81 (L.c { w with dr := w.dr + 1 })) :: r)) ?_; exact prm_) ?_
 refine AU0 ?_
 refine JC.sub (l' := (b2, isC 55 (ck (kf (K w.dr)))) :: (b, isC 81 (L.c { w with dr := w.dr + 1 })) :: (L.sb, isC 161 (Sp.kst (List.replicate 16 0) true)) :: r) (List.Sublist.cons_cons _ (List.Sublist.cons_cons _ (List.Sublist.cons_cons _ (List.sublist_cons_self _ _)))) ?_
 exact JC.ret (ret_cell rfl rfl 0 rfl rfl rfl (List.sublist_cons_self _ _) ⟨by rw [ck_eq (K_len _)], rfl⟩)
end Go.Proofs.YtbalcgjphkdecaaGreatDoor.To
namespace Go.Proofs.YtbalcgjphkdecaaGreatDoor.To
open Go.RowKit Go.Lg
set_option maxRecDepth 100000
theorem sendM_spec {w w' : WS} {fr : Int} {z : S} {m : MS} (h : sendM w fr z m = some w') : 0 ≤ idxR w.T.rs z ∧ w.net.length < 32 ∧ m.okb = true ∧ w.seen ≤ 1000000 ∧ w' = { w with net := w.net ++ [(fr, idxR w.T.rs z, m)], seen := w.seen + 1 } := by
 unfold sendM at h
 split at h
 case isFalse => cases h
 rename_i h1
 split at h
 case isFalse => cases h
 rename_i h2
 simp only [Bool.and_eq_true, decide_eq_true_eq] at h2
 cases h
 exact ⟨h1, h2.1.1, h2.1.2, nb_spec h2.2, rfl⟩
attribute [local irreducible] JC JL JD RN RT Eff Yld YldIf Tr partsL okR splitL wordB joinD fit betweenS laidS viaS De.wrapB De.num De.clampI K Se.sealB Pa.byts Au.byts RP.byts Mg.byts Se.inc tillM Sp.kst
theorem send_ok {w : WS} {L : WL} {W : World} (hw : WOk W w L) (hlen : w.net.length < 32) {m : MS} (hok : m.okb = true) (hs : w.seen ≤ 1000000) {fr to : Int} {v : Value} {r : List Ent} (hv : BV W r v m.mg.byts) :
  Tr Pg 26 #[ptr L.nb, .agg #[iv fr, iv to, v]] W (L.NH ++ r) fun v l' => v = .bool true ∧ ∃ NH' ss', WOk W { w with net := w.net ++ [(fr, to, m)], seen := w.seen + 1 } { L with NH := NH', ss := ss' } ∧ l' = NH' ++ r := by
 obtain ⟨A, c, rfl, h1, h2, h3⟩ := hv
 have hb := Mg.byts_le (MS.okb_spec hok)
 have hb1 := Mg.byts_pos m.mg
 refine (Ne.Send_ok (p := ⟨fr, to, .slice A m.mg.byts.length c, m.mg.byts⟩) hw.n ⟨A, c, rfl, by show m.mg.byts.length ≤ _; omega, h3, h1⟩ (by rw [hw.ns]; omega)).mono ?_
 rintro v l' ⟨rfl, H', hB, rfl⟩
 have hc : Ne.canSend (w.net.map pkN).length m.mg.byts = true := by
  unfold Ne.canSend
  rw [List.length_map]
  exact decide_eq_true ⟨hlen, hb1, hb⟩
 dsimp only at hB ⊢
 rw [hc] at hB ⊢
 rw [if_pos rfl, if_pos rfl] at hB
 exact ⟨rfl, H', _, { hw with n := (by rw [List.map_append]; exact hB), ns := by rw [List.length_append, hw.ns]; rfl, sn := by show w.seen + 1 ≤ 1000001; omega }, rfl⟩
theorem sends_w {w w' : WS} {fr : Int} {z : S} {m : MS} (h : sendM w fr z m = some w') {b : Nat} {L : WL} {W : World} (hw : WOk W w L) {v : Value} {r : List Ent} (hv : BV W r v m.mg.byts) (hr : ∀ e ∈ L.TH, e ∈ r) :
  Tr Pg 49 #[ptr b, iv fr, sv z, v] W (wE b L w :: (L.NH ++ r)) fun v l' => v = .tuple #[] ∧ ∃ NH' ss', WOk W w' { L with NH := NH', ss := ss' } ∧ l' = wE b L w :: (NH' ++ r) := by
 obtain ⟨h1, h2, h3, h4, rfl⟩ := sendM_spec h
 obtain ⟨vA, vc, rfl, -⟩ := id hv
 obtain ⟨t1, -, -, -⟩ := topo_le hw.tt
 obtain ⟨A1, c1, A2, c2, A3, c3, xs, hvs, -, hr1, -⟩ := id hw.t
 obtain ⟨e1, e2⟩ : L.t1A = A1 ∧ L.t1c = c1 := by injection hvs with e _; injection e with e1 _ e3; exact ⟨e1, e3⟩
 rw [← e1, ← e2] at hr1
 unfold wE
 refine Tr.of_code (args := [_, _, _, _]) Tryz.func49 rfl Tryz.ntmps49 lE_ ?_
 refine AU1 ?_
 refine JLs (e_call rfl rfl (IndexS_ok z rfl (by omega) (hr1.1.mono fun e he => by simp [hr e he])) ?_)
 rintro v l' ⟨rfl, rfl⟩
 have h1' : 0 ≤ idxF (fun y => decide (y = z)) w.T.rs 0 := h1
 repeat (first | refine JLp (y_build (cells := #[iv fr, iv (idxR w.T.rs z), .slice vA m.mg.byts.length vc]) rfl) ?_ | refine AS1 ?_)
 refine JLs (e_call rfl rfl (Tr.perm (l' := L.NH ++ (wE b L w :: r)) (perm_mid [_] L.NH r) (send_ok hw h2 h3 h4 (fr := fr) (to := idxR w.T.rs z) (BV.mono hv fun e he => List.mem_cons_of_mem _ he))) ?_)
 rintro v l' ⟨rfl, NH', ss', hw', rfl⟩
 refine AU0 ?_
 refine RN.perm (l' := wE b L w :: (NH' ++ r)) (perm_mid [_] NH' r).symm ?_
 exact RN.none rfl ⟨rfl, NH', ss', hw', rfl⟩
end Go.Proofs.YtbalcgjphkdecaaGreatDoor.To
namespace Go.Proofs.YtbalcgjphkdecaaGreatDoor.To
open Go.RowKit Go.Lg
set_option maxRecDepth 100000
def stC (k n m t : Int) : List Value := [iv k, iv n, iv m, iv t, nl]
theorem wE_setCl {b i : Nat} {L : WL} {w : WS} {x : ClS} {X : List Ent} : wE b { L with CH := X } { w with cl := w.cl.set i x } = wE b L w := by
 unfold wE WL.c
 dsimp only
 rw [List.length_set]
theorem WOk.setCl {W : World} {w : WS} {L : WL} (hw : WOk W w L) {i : Nat} {x : ClS} {X : List Ent} (h : Objs (ClB W) L.cid (w.cl.set i x) X) : WOk W { w with cl := w.cl.set i x } { L with CH := X } :=
 { hw with c := (by dsimp only; rw [List.length_set]; exact hw.c), ch := h, cn := (by dsimp only; rw [List.length_set]; exact hw.cn) }
theorem chaseW_spec {w w' : WS} {c s : Nat} (h : chaseW w c s = some w') : ∃ x t x' z m, w.cl[c]? = some x ∧ w.sv_[s]? = some t ∧ chaseM x t (nowM w.ck (100 + c)) = some (x', z, m) ∧ sendM { w with cl := w.cl.set c x' } (100 + c) z m = some w' := by
 unfold chaseW at h
 split at h
 case h_2 => cases h
 rename_i x t h1 h2
 split at h
 case h_2 => cases h
 rename_i x' z m h3
 exact ⟨x, t, x', z, m, h1, h2, h3, h⟩
theorem row_get_at {α : Type} (enc : α → List Value) {sz : Nat} (he : ∀ x, (enc x).length = sz) : ∀ {xs : List α} {i : Nat} {x : α}, xs[i]? = some x → ((xs.flatMap enc).drop (0 + i * sz)).take sz = enc x
 | [], _, _, h => by simp at h
 | a :: xs, 0, x, h => by
  cases h
  rw [Nat.zero_mul, Nat.zero_add, List.drop_zero, List.flatMap_cons, List.take_left' (he _)]
 | a :: xs, i + 1, x, h => by
  have ih := row_get_at enc he (xs := xs) (i := i) (x := x) (by simpa using h)
  rw [List.flatMap_cons, show 0 + (i + 1) * sz = (enc a).length + (0 + i * sz) by rw [he, Nat.succ_mul]; omega, List.drop_length_add_append]
  exact ih
attribute [local irreducible] JC JL JD RN RT Eff Yld YldIf Tr partsL okR splitL wordB joinD fit betweenS laidS viaS De.wrapB De.num De.clampI K Se.sealB Pa.byts Au.byts RP.byts Mg.byts Se.inc tillM Sp.kst
set_option maxHeartbeats 4000000 in
theorem chases_ok {w w' : WS} {c s : Nat} (h : chaseW w c s = some w') {k n : Int} {b : Nat} {H r : List Ent} {W : World} (hB : WorldB W b w H) :
  Tr Pg 18 #[ptr b, .agg (stC k (100 + c) n s).toArray] W (H ++ r) fun v l' => v = iv 0 ∧ ∃ H', WorldB W b w' H' ∧ l' = H' ++ r := by
 obtain ⟨x, t, x', z, m, hx, ht, hch, hse⟩ := chaseW_spec h
 obtain ⟨L, hw, rfl⟩ := hB
 have hcn := hw.cn
 have hsn := hw.svn
 have hci : c < w.cl.length := (List.getElem?_eq_some_iff.1 hx).1
 have hsi : s < w.sv_.length := (List.getElem?_eq_some_iff.1 ht).1
 obtain ⟨g, cap, he, -, -, hcl⟩ := De.own_some hw.c (by omega)
 obtain ⟨g2, cap2, he2, -, -, hsl⟩ := De.own_some hw.s (by omega)
 injection he with he1 _ he3
 injection he2 with he4 _ he6
 obtain ⟨cb, CA, H1, CB, hcb, hC, hCH, hset⟩ := hw.ch.get hx
 refine Tr.perm (l' := wE b L w :: mE L w :: (g, isR 52 (cap * 1) (L.cid.map ptr)) :: (g2, isR 48 (cap2 * 2) (w.sv_.flatMap enc2)) :: (H1 ++ spE L.sb L.sm :: (L.TH ++ (L.rl ++ (L.kl ++ (L.KH ++ (CA ++ (CB ++ (L.al ++ (L.AH ++ (L.NH ++ (L.acl ++ (L.AccH ++ (L.isl ++ r)))))))))))))) (by unfold WL.H; rw [hcl, hsl, hCH]; exact prm_) ?_
 refine Tr.of_code (args := [_, _]) Tryz.func18 rfl Tryz.ntmps18 lE_ ?_
 refine AU0 ?_
 refine JLs (e_box (cs := stC k (100 + c : Int) n (s : Int)) rfl rfl fun b3 => ?_)
 refine AU1 ?_
 refine JLs (e_call rfl rfl (nClient_ok (n := 100 + c) (by omega) (List.mem_cons_of_mem _ (List.mem_cons_self ..))) ?_)
 rintro v l' ⟨rfl, rfl⟩
 rw [show (100 + (c : Int) - 100) = (c : Int) by omega]
 refine AU0 ?_
 refine JC.drawn 30 rfl mixed ?_
 refine JDp 0 rfl y_mv ?_
 refine JDp 1 rfl (y_nilCheck rfl) ?_
 refine JDp 2 rfl (y_fieldAddr rfl) ?_
 refine JDr 3 1 rfl rfl (r_load1 (v := .slice (some ⟨g, 0, none⟩) w.cl.length cap) rfl (by rw [← he1, ← he3]; rfl)) ?_
 refine JDp 4 rfl y_mv ?_
 refine JDp 5 rfl (y_index (j := c) rfl rfl hci) ?_
 refine JDr 6 3 rfl rfl (r_loadR1 rfl (by rw [List.getElem?_map, Nat.zero_add, Nat.mul_one, hcb]; rfl)) ?_
 refine JDp 7 rfl y_mv ?_
 refine JDp 8 rfl (y_nilCheck rfl) ?_
 refine JDp 9 rfl (y_fieldAddr rfl) ?_
 refine JDr 10 1 rfl rfl (r_load1 (v := .slice (some ⟨g2, 0, none⟩) w.sv_.length cap2) rfl (by rw [← he4, ← he6]; rfl)) ?_
 refine JDp 11 rfl (y_fieldAddr rfl) ?_
 refine JDr 12 0 rfl rfl (r_load1 rfl rfl) ?_
 refine JDp 13 rfl (y_index (j := s) rfl rfl hsi) ?_
 refine JDr 14 4 rfl rfl (r_loadRA (v := enc2 t) rfl (by rw [row_len enc2 enc2_len]; omega) (row_get_at enc2 enc2_len ht)) ?_
 refine JDp 15 rfl y_mv ?_
 refine JDp 16 rfl (y_nilCheck rfl) ?_
 refine JDp 17 rfl (y_fieldAddr rfl) ?_
 refine JDr 18 1 rfl rfl (r_load1 rfl rfl) ?_
 refine JDp 19 rfl (y_fieldAddr rfl) ?_
 refine JDr 20 0 rfl rfl (r_load1 rfl rfl) ?_
 refine JDr 21 2 rfl rfl (r_lookupI zero_int rfl rfl) ?_
 refine JDe 22 rfl (e_call rfl rfl (Tr.perm (l' := H1 ++ ((b3, isC 28 (stC k (100 + c : Int) n (s : Int))) :: wE b L w :: mE L w :: (g, isR 52 (cap * 1) (L.cid.map ptr)) :: (g2, isR 48 (cap2 * 2) (w.sv_.flatMap enc2)) :: spE L.sb L.sm :: (L.TH ++ (L.rl ++ (L.kl ++ (L.KH ++ (CA ++ (CB ++ (L.al ++ (L.AH ++ (L.NH ++ (L.acl ++ (L.AccH ++ (L.isl ++ r)))))))))))))) (perm_mid [_, _, _, _, _] H1 _) (Chase_ok hch hC)) ?_)
 rintro v l' ⟨v1, le, H1', rfl, ho, hC', rfl⟩
 refine ⟨tok_, ?_⟩
 refine JDp 23 rfl y_mv ?_
 refine JDp 24 rfl (y_extract rfl rfl) ?_
 refine JDp 25 rfl (y_extract rfl rfl) ?_
 refine JDp 26 rfl (y_extract rfl rfl) ?_
 refine JDp 27 rfl y_as ?_
 refine JDp 28 rfl y_as ?_
 refine JDp 29 rfl y_as ?_
 refine JDd ?_
 refine RN.perm (l' := (b3, isC 28 (stC k (100 + c : Int) n (s : Int))) :: wE b L w :: (L.NH ++ (mE L w :: (g, isR 52 (cap * 1) (L.cid.map ptr)) :: (g2, isR 48 (cap2 * 2) (w.sv_.flatMap enc2)) :: spE L.sb L.sm :: (L.TH ++ (L.rl ++ (L.kl ++ (L.KH ++ (CA ++ (H1' ++ (CB ++ (L.al ++ (L.AH ++ (L.acl ++ (L.AccH ++ (L.isl ++ (le ++ r)))))))))))))))) prm_ ?_
 refine AU1 ?_
 have hs := sends_w hse (WOk.setCl hw (hset x' H1' hC')) (b := b) (v := v1) (r := (b3, isC 28 (stC k (100 + c : Int) n (s : Int))) :: mE L w :: (g, isR 52 (cap * 1) (L.cid.map ptr)) :: (g2, isR 48 (cap2 * 2) (w.sv_.flatMap enc2)) :: spE L.sb L.sm :: (L.TH ++ (L.rl ++ (L.kl ++ (L.KH ++ (CA ++ (H1' ++ (CB ++ (L.al ++ (L.AH ++ (L.acl ++ (L.AccH ++ (L.isl ++ (le ++ r)))))))))))))) (BV.mono (BV.own (W := W) ho) fun e he => by simp [he]) (fun e he => by simp [he])
 rw [wE_setCl] at hs
 refine JLs (e_call rfl rfl (Tr.perm (l' := wE b L w :: (L.NH ++ ((b3, isC 28 (stC k (100 + c : Int) n (s : Int))) :: mE L w :: (g, isR 52 (cap * 1) (L.cid.map ptr)) :: (g2, isR 48 (cap2 * 2) (w.sv_.flatMap enc2)) :: spE L.sb L.sm :: (L.TH ++ (L.rl ++ (L.kl ++ (L.KH ++ (CA ++ (H1' ++ (CB ++ (L.al ++ (L.AH ++ (L.acl ++ (L.AccH ++ (L.isl ++ (le ++ r)))))))))))))))) prm_ hs) ?_)
 rintro v l' ⟨rfl, NH', ss', hw', rfl⟩
 obtain ⟨-, -, -, -, rfl⟩ := sendM_spec hse
 refine AU0 ?_
 refine JC.perm (l' := (b3, isC 28 (stC k (100 + c : Int) n (s : Int))) :: (le ++ ((wE b L w :: mE L w :: spE L.sb L.sm :: (L.TH ++ (L.rl ++ (L.kl ++ (L.KH ++ (L.cl ++ ((CA ++ (H1' ++ CB)) ++ (L.sl ++ (L.al ++ (L.AH ++ (NH' ++ (L.acl ++ (L.AccH ++ L.isl))))))))))))) ++ r))) (by rw [hcl, hsl]; exact prm_) ?_
 refine JC.sub (((List.sublist_append_right le _)).cons _) ?_
 refine JC.ret (RT.one rfl rfl (v := iv 0) rfl ⟨rfl, _, ⟨_, hw', ?_⟩, rfl⟩)
 unfold mE wE WL.H WL.c
 dsimp only
 rw [List.length_set]
end Go.Proofs.YtbalcgjphkdecaaGreatDoor.To
namespace Go.Proofs.YtbalcgjphkdecaaGreatDoor.To
open Go.RowKit Go.Lg
set_option maxRecDepth 100000
theorem askW_spec {w : WS} {res : Option WS} {c s : Nat} (h : askW w c s = some res) : ∃ x t, w.cl[c]? = some x ∧ w.sv_[s]? = some t ∧
  ((askM x t (nowM w.ck (100 + c)) = some none ∧ res = none) ∨ (∃ x' m, askM x t (nowM w.ck (100 + c)) = some (some (x', m)) ∧ w.net.length < 32 ∧ m.okb = true ∧ w.seen ≤ 1000000 ∧ res = some { w with cl := w.cl.set c x', net := w.net ++ [((100 + c : Int), (200 + s : Int), m)], seen := w.seen + 1 })) := by
 unfold askW at h
 split at h
 case h_2 => cases h
 rename_i x t h1 h2
 refine ⟨x, t, h1, h2, ?_⟩
 split at h
 ·rename_i x' m h3
  split at h
  case isFalse => cases h
  rename_i hc
  simp only [Bool.and_eq_true, decide_eq_true_eq] at hc
  cases h
  exact .inr ⟨x', m, h3, hc.1.1, hc.1.2, nb_spec hc.2, rfl⟩
 ·rename_i h3
  cases h
  exact .inl ⟨h3, rfl⟩
 ·cases h
attribute [local irreducible] JC JL JD RN RT Eff Yld YldIf Tr partsL okR splitL wordB joinD fit betweenS laidS viaS De.wrapB De.num De.clampI K Se.sealB Pa.byts Au.byts RP.byts Mg.byts Se.inc tillM Sp.kst
set_option maxHeartbeats 4000000 in
theorem asks_no {w : WS} {c s : Nat} (h : askW w c s = some none) {k n : Int} {b : Nat} {H r : List Ent} {W : World} (hB : WorldB W b w H) :
  Tr Pg 19 #[ptr b, .agg (stC k (100 + c) n s).toArray] W (H ++ r) fun v l' => v = iv 4 ∧ l' = H ++ r := by
 obtain ⟨x, t, hx, ht, ⟨hno, -⟩ | ⟨_, _, _, _, _, _, hf⟩⟩ := askW_spec h
 case inr => cases hf
 obtain ⟨L, hw, rfl⟩ := hB
 have hcn := hw.cn
 have hsn := hw.svn
 have hci : c < w.cl.length := (List.getElem?_eq_some_iff.1 hx).1
 have hsi : s < w.sv_.length := (List.getElem?_eq_some_iff.1 ht).1
 obtain ⟨g, cap, he, -, -, hcl⟩ := De.own_some hw.c (by omega)
 obtain ⟨g2, cap2, he2, -, -, hsl⟩ := De.own_some hw.s (by omega)
 injection he with he1 _ he3
 injection he2 with he4 _ he6
 obtain ⟨cb, CA, H1, CB, hcb, hC, hCH, hset⟩ := hw.ch.get hx
 refine Tr.perm (l' := wE b L w :: mE L w :: (g, isR 52 (cap * 1) (L.cid.map ptr)) :: (g2, isR 48 (cap2 * 2) (w.sv_.flatMap enc2)) :: (H1 ++ spE L.sb L.sm :: (L.TH ++ (L.rl ++ (L.kl ++ (L.KH ++ (CA ++ (CB ++ (L.al ++ (L.AH ++ (L.NH ++ (L.acl ++ (L.AccH ++ (L.isl ++ r)))))))))))))) (by unfold WL.H; rw [hcl, hsl, hCH]; exact prm_) ?_
 refine Tr.of_code (args := [_, _]) Tryz.func19 rfl Tryz.ntmps19 lE_ ?_
 refine AU0 ?_
 refine JLs (e_box (cs := stC k (100 + c : Int) n (s : Int)) rfl rfl fun b3 => ?_)
 refine AU1 ?_
 refine JLs (e_call rfl rfl (nClient_ok (n := 100 + c) (by omega) (List.mem_cons_of_mem _ (List.mem_cons_self ..))) ?_)
 rintro v l' ⟨rfl, rfl⟩
 refine AU0 ?_
 rw [show (100 + (c : Int) - 100) = (c : Int) by omega]
 refine AU0 ?_
 refine JC.drawn 28 rfl mixed ?_
 refine JDp 0 rfl y_mv ?_
 refine JDp 1 rfl (y_nilCheck rfl) ?_
 refine JDp 2 rfl (y_fieldAddr rfl) ?_
 refine JDr 3 1 rfl rfl (r_load1 (v := .slice (some ⟨g, 0, none⟩) w.cl.length cap) rfl (by rw [← he1, ← he3]; rfl)) ?_
 refine JDp 4 rfl y_mv ?_
 refine JDp 5 rfl (y_index (j := c) rfl rfl hci) ?_
 refine JDr 6 3 rfl rfl (r_loadR1 rfl (by rw [List.getElem?_map, Nat.zero_add, Nat.mul_one, hcb]; rfl)) ?_
 refine JDp 7 rfl y_mv ?_
 refine JDp 8 rfl (y_nilCheck rfl) ?_
 refine JDp 9 rfl (y_fieldAddr rfl) ?_
 refine JDr 10 1 rfl rfl (r_load1 (v := .slice (some ⟨g2, 0, none⟩) w.sv_.length cap2) rfl (by rw [← he4, ← he6]; rfl)) ?_
 refine JDp 11 rfl (y_fieldAddr rfl) ?_
 refine JDr 12 0 rfl rfl (r_load1 rfl rfl) ?_
 refine JDp 13 rfl (y_index (j := s) rfl rfl hsi) ?_
 refine JDr 14 4 rfl rfl (r_loadRA (v := enc2 t) rfl (by rw [row_len enc2 enc2_len]; omega) (row_get_at enc2 enc2_len ht)) ?_
 refine JDp 15 rfl y_mv ?_
 refine JDp 16 rfl (y_nilCheck rfl) ?_
 refine JDp 17 rfl (y_fieldAddr rfl) ?_
 refine JDr 18 1 rfl rfl (r_load1 rfl rfl) ?_
 refine JDp 19 rfl (y_fieldAddr rfl) ?_
 refine JDr 20 0 rfl rfl (r_load1 rfl rfl) ?_
 refine JDr 21 2 rfl rfl (r_lookupI zero_int rfl rfl) ?_
 refine JDe 22 rfl (e_call rfl rfl (Tr.perm (l' := H1 ++ ((b3, isC 28 (stC k (100 + c : Int) n (s : Int))) :: wE b L w :: mE L w :: (g, isR 52 (cap * 1) (L.cid.map ptr)) :: (g2, isR 48 (cap2 * 2) (w.sv_.flatMap enc2)) :: spE L.sb L.sm :: (L.TH ++ (L.rl ++ (L.kl ++ (L.KH ++ (CA ++ (CB ++ (L.al ++ (L.AH ++ (L.NH ++ (L.acl ++ (L.AccH ++ (L.isl ++ r)))))))))))))) (perm_mid [_, _, _, _, _] H1 _) (Ask_no hno hC)) ?_)
 rintro v l' ⟨rfl, rfl⟩
 refine ⟨tok_, ?_⟩
 refine JDp 23 rfl y_mv ?_
 refine JDp 24 rfl (y_extract rfl rfl) ?_
 refine JDp 25 rfl (y_extract rfl rfl) ?_
 refine JDp 26 rfl y_as ?_
 refine JDp 27 rfl y_as ?_
 refine JDd ?_
 refine AU0 ?_
 refine JC.perm (l' := (b3, isC 28 (stC k (100 + c : Int) n (s : Int))) :: ((wE b L w :: mE L w :: spE L.sb L.sm :: L.H) ++ r)) (by unfold WL.H; rw [hcl, hsl, hCH]; exact prm_) ?_
 refine JC.sub (List.sublist_cons_self _ _) ?_
 exact JC.ret (RT.one rfl rfl (v := iv 4) rfl ⟨rfl, rfl⟩)
set_option maxHeartbeats 4000000 in
theorem asks_yes {w w' : WS} {c s : Nat} (h : askW w c s = some (some w')) {k n : Int} {b : Nat} {H r : List Ent} {W : World} (hB : WorldB W b w H) :
  Tr Pg 19 #[ptr b, .agg (stC k (100 + c) n s).toArray] W (H ++ r) fun v l' => v = iv 0 ∧ ∃ H', WorldB W b w' H' ∧ l' = H' ++ r := by
 obtain ⟨x, t, hx, ht, ⟨_, hf⟩ | ⟨x', m, hyes, hlen, hok, hse, hf⟩⟩ := askW_spec h
 case inl => cases hf
 cases hf
 obtain ⟨L, hw, rfl⟩ := hB
 have hcn := hw.cn
 have hsn := hw.svn
 have hci : c < w.cl.length := (List.getElem?_eq_some_iff.1 hx).1
 have hsi : s < w.sv_.length := (List.getElem?_eq_some_iff.1 ht).1
 obtain ⟨g, cap, he, -, -, hcl⟩ := De.own_some hw.c (by omega)
 obtain ⟨g2, cap2, he2, -, -, hsl⟩ := De.own_some hw.s (by omega)
 injection he with he1 _ he3
 injection he2 with he4 _ he6
 obtain ⟨cb, CA, H1, CB, hcb, hC, hCH, hset⟩ := hw.ch.get hx
 refine Tr.perm (l' := wE b L w :: mE L w :: (g, isR 52 (cap * 1) (L.cid.map ptr)) :: (g2, isR 48 (cap2 * 2) (w.sv_.flatMap enc2)) :: (H1 ++ spE L.sb L.sm :: (L.TH ++ (L.rl ++ (L.kl ++ (L.KH ++ (CA ++ (CB ++ (L.al ++ (L.AH ++ (L.NH ++ (L.acl ++ (L.AccH ++ (L.isl ++ r)))))))))))))) (by unfold WL.H; rw [hcl, hsl, hCH]; exact prm_) ?_
 refine Tr.of_code (args := [_, _]) Tryz.func19 rfl Tryz.ntmps19 lE_ ?_
 refine AU0 ?_
 refine JLs (e_box (cs := stC k (100 + c : Int) n (s : Int)) rfl rfl fun b3 => ?_)
 refine AU1 ?_
 refine JLs (e_call rfl rfl (nClient_ok (n := 100 + c) (by omega) (List.mem_cons_of_mem _ (List.mem_cons_self ..))) ?_)
 rintro v l' ⟨rfl, rfl⟩
 refine AU0 ?_
 rw [show (100 + (c : Int) - 100) = (c : Int) by omega]
 refine AU0 ?_
 refine JC.drawn 28 rfl mixed ?_
 refine JDp 0 rfl y_mv ?_
 refine JDp 1 rfl (y_nilCheck rfl) ?_
 refine JDp 2 rfl (y_fieldAddr rfl) ?_
 refine JDr 3 1 rfl rfl (r_load1 (v := .slice (some ⟨g, 0, none⟩) w.cl.length cap) rfl (by rw [← he1, ← he3]; rfl)) ?_
 refine JDp 4 rfl y_mv ?_
 refine JDp 5 rfl (y_index (j := c) rfl rfl hci) ?_
 refine JDr 6 3 rfl rfl (r_loadR1 rfl (by rw [List.getElem?_map, Nat.zero_add, Nat.mul_one, hcb]; rfl)) ?_
 refine JDp 7 rfl y_mv ?_
 refine JDp 8 rfl (y_nilCheck rfl) ?_
 refine JDp 9 rfl (y_fieldAddr rfl) ?_
 refine JDr 10 1 rfl rfl (r_load1 (v := .slice (some ⟨g2, 0, none⟩) w.sv_.length cap2) rfl (by rw [← he4, ← he6]; rfl)) ?_
 refine JDp 11 rfl (y_fieldAddr rfl) ?_
 refine JDr 12 0 rfl rfl (r_load1 rfl rfl) ?_
 refine JDp 13 rfl (y_index (j := s) rfl rfl hsi) ?_
 refine JDr 14 4 rfl rfl (r_loadRA (v := enc2 t) rfl (by rw [row_len enc2 enc2_len]; omega) (row_get_at enc2 enc2_len ht)) ?_
 refine JDp 15 rfl y_mv ?_
 refine JDp 16 rfl (y_nilCheck rfl) ?_
 refine JDp 17 rfl (y_fieldAddr rfl) ?_
 refine JDr 18 1 rfl rfl (r_load1 rfl rfl) ?_
 refine JDp 19 rfl (y_fieldAddr rfl) ?_
 refine JDr 20 0 rfl rfl (r_load1 rfl rfl) ?_
 refine JDr 21 2 rfl rfl (r_lookupI zero_int rfl rfl) ?_
 refine JDe 22 rfl (e_call rfl rfl (Tr.perm (l' := H1 ++ ((b3, isC 28 (stC k (100 + c : Int) n (s : Int))) :: wE b L w :: mE L w :: (g, isR 52 (cap * 1) (L.cid.map ptr)) :: (g2, isR 48 (cap2 * 2) (w.sv_.flatMap enc2)) :: spE L.sb L.sm :: (L.TH ++ (L.rl ++ (L.kl ++ (L.KH ++ (CA ++ (CB ++ (L.al ++ (L.AH ++ (L.NH ++ (L.acl ++ (L.AccH ++ (L.isl ++ r)))))))))))))) (perm_mid [_, _, _, _, _] H1 _) (Ask_yes hyes hC)) ?_)
 rintro v l' ⟨v1, le, H1', rfl, ho, hC', rfl⟩
 obtain ⟨vA, vc, rfl, hvs⟩ := BV.own (W := W) ho
 refine ⟨tok_, ?_⟩
 refine JDp 23 rfl y_mv ?_
 refine JDp 24 rfl (y_extract rfl rfl) ?_
 refine JDp 25 rfl (y_extract rfl rfl) ?_
 refine JDp 26 rfl y_as ?_
 refine JDp 27 rfl y_as ?_
 refine JDd ?_
 refine RN.perm (l' := (b3, isC 28 (stC k (100 + c : Int) n (s : Int))) :: wE b L w :: (L.NH ++ (mE L w :: (g, isR 52 (cap * 1) (L.cid.map ptr)) :: (g2, isR 48 (cap2 * 2) (w.sv_.flatMap enc2)) :: spE L.sb L.sm :: (L.TH ++ (L.rl ++ (L.kl ++ (L.KH ++ (CA ++ (H1' ++ (CB ++ (L.al ++ (L.AH ++ (L.acl ++ (L.AccH ++ (L.isl ++ (le ++ r)))))))))))))))) prm_ ?_
 refine AU0 ?_
 have hs := send_ok (WOk.setCl hw (hset x' H1' hC')) (w := { w with cl := w.cl.set c x' }) hlen hok hse (fr := 100 + c) (to := 200 + s) (r := (b3, isC 28 (stC k (100 + c : Int) n (s : Int))) :: wE b L w :: mE L w :: (g, isR 52 (cap * 1) (L.cid.map ptr)) :: (g2, isR 48 (cap2 * 2) (w.sv_.flatMap enc2)) :: spE L.sb L.sm :: (L.TH ++ (L.rl ++ (L.kl ++ (L.KH ++ (CA ++ (H1' ++ (CB ++ (L.al ++ (L.AH ++ (L.acl ++ (L.AccH ++ (L.isl ++ (le ++ r)))))))))))))) (BV.mono ⟨vA, vc, rfl, hvs⟩ fun e he => by simp [he])
 refine JC.drawn 12 rfl mixed ?_
 refine JDp 0 rfl y_mv ?_
 refine JDp 1 rfl (y_nilCheck rfl) ?_
 refine JDp 2 rfl (y_fieldAddr rfl) ?_
 refine JDr 3 1 rfl rfl (r_load1 rfl rfl) ?_
 refine JDp 4 rfl (y_fieldAddr rfl) ?_
 refine JDr 5 0 rfl rfl (r_load1 rfl rfl) ?_
 refine JDp 6 rfl (y_fieldAddr rfl) ?_
 refine JDr 7 0 rfl rfl (r_load1 rfl rfl) ?_
 refine JDp 8 rfl (y_add rfl rfl (wrap_add (by omega) (by omega))) ?_
 refine JDp 9 rfl y_mv ?_
 refine JDp 10 rfl (y_build (cells := #[iv (100 + c), iv (200 + s), .slice vA m.mg.byts.length vc]) (by kernel_rfl)) ?_
 refine JDe 11 rfl (e_call rfl rfl (Tr.perm (l' := L.NH ++ ((b3, isC 28 (stC k (100 + c : Int) n (s : Int))) :: wE b L w :: mE L w :: (g, isR 52 (cap * 1) (L.cid.map ptr)) :: (g2, isR 48 (cap2 * 2) (w.sv_.flatMap enc2)) :: spE L.sb L.sm :: (L.TH ++ (L.rl ++ (L.kl ++ (L.KH ++ (CA ++ (H1' ++ (CB ++ (L.al ++ (L.AH ++ (L.acl ++ (L.AccH ++ (L.isl ++ (le ++ r))))))))))))))) (perm_mid [_, _] L.NH _) hs) ?_)
 rintro v l' ⟨rfl, NH', ss', hw', rfl⟩
 refine ⟨tok_, ?_⟩
 refine JDd ?_
 refine AU0 ?_
 refine JC.perm (l' := (b3, isC 28 (stC k (100 + c : Int) n (s : Int))) :: (le ++ ((wE b L w :: mE L w :: spE L.sb L.sm :: (L.TH ++ (L.rl ++ (L.kl ++ (L.KH ++ (L.cl ++ ((CA ++ (H1' ++ CB)) ++ (L.sl ++ (L.al ++ (L.AH ++ (NH' ++ (L.acl ++ (L.AccH ++ L.isl))))))))))))) ++ r))) (by rw [hcl, hsl]; exact prm_) ?_
 refine JC.sub (((List.sublist_append_right le _)).cons _) ?_
 refine JC.ret (RT.one rfl rfl (v := iv 0) rfl ⟨rfl, _, ⟨_, hw', ?_⟩, rfl⟩)
 unfold mE wE WL.H WL.c
 dsimp only
 rw [List.length_set]
end Go.Proofs.YtbalcgjphkdecaaGreatDoor.To
namespace Go.Proofs.YtbalcgjphkdecaaGreatDoor.To
open Go.RowKit Go.Lg
set_option maxRecDepth 100000
attribute [local irreducible] JC JL JD RN RT Eff Yld YldIf Tr partsL okR splitL wordB joinD fit betweenS laidS viaS De.wrapB De.num De.clampI K Se.sealB Pa.byts Au.byts RP.byts Mg.byts Se.inc nextS
set_option maxHeartbeats 1000000 in
theorem HandleT_ok {T : Topo} {k k' : KdcS} {tk : TkS} {au : AuS} {s : P2} {till nc : Int} {m' : MS} {now : Int} {d : Nat} (h : tgsM T k tk au s till nc now d = some (k', m')) {kb rb : Nat} {t1 t2 t3 : Value} {bl : List RB} {RH r : List Ent} {W : World} (hB : RingB rb bl RH) (hbl : bl.map RB.it = k.its) (hm : bl.length ≤ 1000) (hT : TopoV W r [t1, t2, t3] T) {v : Value} (hv : BV W r v (MS.tg tk au s till nc).mg.byts) :
  Tr Pg 94 #[ptr kb, v, iv now, .agg ((K d).map bv).toArray] W (kdcE kb rb t1 t2 t3 k :: (RH ++ r)) fun v l' => ∃ le, OwnB v m'.mg.byts le ∧ l' = le ++ (kdcE kb rb t1 t2 t3 k' :: (RH ++ r)) := by
 unfold tgsM at h
 split at h
 case h_2 => cases h
 rename_i i1 it to hl1 htg
 split at h
 case h_2 => cases h
 rename_i i2 tr2 hl2 hps
 obtain ⟨i2, it2⟩ := i2
 split at h
 case isFalse => cases h
 rename_i hc
 simp only [Bool.and_eq_true, decide_eq_true_eq] at hc
 obtain ⟨⟨⟨⟨⟨⟨⟨⟨⟨⟨⟨⟨c1', c2'⟩, c3⟩, c4⟩, c5⟩, c6⟩, c7⟩, c8⟩, c9⟩, c10⟩, c11⟩, c12⟩, c13⟩ := hc
 obtain ⟨i3, it3, hl3, m1, m2, m3, m4, m5, rfl, rfl, m6⟩ := makesM_spec h
 rw [hl2] at hl3
 cases hl3
 rw [← hbl] at hl1 hl2
 have hpg := PaS.okb_spec m1
 have hg := MS.okb_spec c1'
 simp only [MS.okb, Bool.and_eq_true] at c1'
 obtain ⟨q1, q2, q3, q4⟩ := TkS.okb_spec c1'.1.1.1.1
 obtain ⟨a1, a2, a3, a4⟩ := AuS.okb_spec c1'.1.1.1.2
 have e1 : tk.tk = ⟨tk.sv_, (tk.kv : Int), Se.sealB (K it.k) 2 (BitVec.ofNat 64 tk.n) tk.pa.pa.byts⟩ := by unfold TkS.tk; rw [c5]
 have e2 : au.b = Se.sealB tk.pa.pa.ses 7 (BitVec.ofNat 64 au.n) au.a.byts := by unfold AuS.b; rw [c8, c9]; rfl
 have hmg : (MS.tg tk au s till nc).mg = Mg.tg ⟨⟨tk.sv_, (tk.kv : Int), Se.sealB (K it.k) 2 (BitVec.ofNat 64 tk.n) tk.pa.pa.byts⟩, Se.sealB tk.pa.pa.ses 7 (BitVec.ofNat 64 au.n) au.a.byts, s, till, nc⟩ := by show Mg.tg _ = _; rw [e1, e2]
 rw [hmg] at hv hg
 have htg' : ∀ r', (∀ e ∈ r, e ∈ r') → Tr Pg 166 #[ptr kb, pv s] W (kdcE kb rb t1 t2 t3 k :: (RH ++ r')) fun v l' => v = .tuple #[pv to, iv 0] ∧ l' = kdcE kb rb t1 t2 t3 k :: (RH ++ r') := fun r' hr' => by
  unfold targetM at htg
  split at htg
  ·rename_i hs
   cases htg
   exact target_same hB hm hs hl2
  ·rename_i hs
   split at htg
   case isFalse => cases htg
   rename_i hcc
   simp only [Bool.and_eq_true, decide_eq_true_eq] at hcc
   cases hz : nextS T k.r s.1 with
   | none => rw [hz] at htg; cases htg
   | some z =>
    rw [hz] at htg
    simp only [Option.bind_some] at htg
    split at htg
    case isFalse => cases htg
    rename_i hz1
    cases htg
    exact target_next hB hm (hT.mono hr') hs hcc.1.1 hcc.1.2 hz hz1 hl2
 have hps' : ∀ r', Tr Pg 167 #[ptr kb, .agg tk.pa.pa.cells.toArray, sv tk.sv_.1, sv s.1] W (kdcE kb rb t1 t2 t3 k :: r') fun v l' => v = .tuple #[sv (cat tr2), iv 0] ∧ l' = kdcE kb rb t1 t2 t3 k :: r' := fun r' => by
  unfold passedM at hps
  split at hps
  ·rename_i hs
   cases hps
   exact passed_same q3 hs
  ·rename_i hs
   split at hps
   case isFalse => cases hps
   rename_i hcc
   simp only [Bool.and_eq_true, decide_eq_true_eq] at hcc
   obtain ⟨⟨⟨⟨⟨⟨⟨p1, p2⟩, p3⟩, p4⟩, p5⟩, p6⟩, p7⟩, p8⟩ := hcc
   cases hps
   exact passed_more q3 (fun e => hs (Or.inl e)) p5 p1 p2 p3 p4 p6 p7 p8
 obtain ⟨ka, kbb, kc, kd, ke, kf, kg, ki, kj, kk, kl, km, kn, ko, kp, kq, kA, kB, kC, kD, kE, kF, kG, kI, kJ, kK, kL, kM, kN, kO, kP, kQ, hk⟩ := len32 (K_len d)
 refine Tr.of_code (args := [_, _, _, _]) Tryz.func94 rfl Tryz.ntmps94 lE_ ?_
 have hkk : ((K d).map bv).toArray = #[bv ka, bv kbb, bv kc, bv kd, bv ke, bv kf, bv kg, bv ki, bv kj, bv kk, bv kl, bv km, bv kn, bv ko, bv kp, bv kq, bv kA, bv kB, bv kC, bv kD, bv kE, bv kF, bv kG, bv kI, bv kJ, bv kK, bv kL, bv kM, bv kN, bv kO, bv kP, bv kQ] := by rw [hk]; rfl
 rw [hkk]
 refine AU0 ?_
 refine JLs (e_box (cs := [bv ka, bv kbb, bv kc, bv kd, bv ke, bv kf, bv kg, bv ki, bv kj, bv kk, bv kl, bv km, bv kn, bv ko, bv kp, bv kq, bv kA, bv kB, bv kC, bv kD, bv kE, bv kF, bv kG, bv kI, bv kJ, bv kK, bv kL, bv kM, bv kN, bv kO, bv kP, bv kQ]) rfl rfl fun b7 => ?_)
 refine AU0 ?_
 refine JLs (e_call rfl rfl (Decode_ok hg (hv.mono fun e he => by simp [he])) ?_)
 rintro v l' ⟨w1, w2, le0, rfl, hm0, rfl⟩
 refine AU0 ?_
 refine JLs (e_alloc fun b9 => ?_)
 refine JLs (e_store 0 rfl rfl rfl (vs := (Mg.tg ⟨⟨tk.sv_, (tk.kv : Int), Se.sealB (K it.k) 2 (BitVec.ofNat 64 tk.n) tk.pa.pa.byts⟩, Se.sealB tk.pa.pa.ses 7 (BitVec.ofNat 64 au.n) au.a.byts, s, till, nc⟩).cells w1 w2) rfl rfl (by obtain ⟨⟨_, _, rfl, -⟩, ⟨_, _, rfl, -⟩⟩ := hm0; rfl) lE_ ?_)
 refine JL.cast (l' := (b9, isC 207 ((Mg.tg ⟨⟨tk.sv_, (tk.kv : Int), Se.sealB (K it.k) 2 (BitVec.ofNat 64 tk.n) tk.pa.pa.byts⟩, Se.sealB tk.pa.pa.ses 7 (BitVec.ofNat 64 au.n) au.a.byts, s, till, nc⟩).cells w1 w2)) :: (le0 ++ ((b7, isC 55 [bv ka, bv kbb, bv kc, bv kd, bv ke, bv kf, bv kg, bv ki, bv kj, bv kk, bv kl, bv km, bv kn, bv ko, bv kp, bv kq, bv kA, bv kB, bv kC, bv kD, bv kE, bv kF, bv kG, bv kI, bv kJ, bv kK, bv kL, bv kM, bv kN, bv kO, bv kP, bv kQ]) :: kdcE kb rb t1 t2 t3 k :: (RH ++ r)))) rfl ?_
 refine JL.perm (l' := (b7, isC 55 [bv ka, bv kbb, bv kc, bv kd, bv ke, bv kf, bv kg, bv ki, bv kj, bv kk, bv kl, bv km, bv kn, bv ko, bv kp, bv kq, bv kA, bv kB, bv kC, bv kD, bv kE, bv kF, bv kG, bv kI, bv kJ, bv kK, bv kL, bv kM, bv kN, bv kO, bv kP, bv kQ]) :: (b9, isC 207 ((Mg.tg ⟨⟨tk.sv_, (tk.kv : Int), Se.sealB (K it.k) 2 (BitVec.ofNat 64 tk.n) tk.pa.pa.byts⟩, Se.sealB tk.pa.pa.ses 7 (BitVec.ofNat 64 au.n) au.a.byts, s, till, nc⟩).cells w1 w2)) :: kdcE kb rb t1 t2 t3 k :: (RH ++ (le0 ++ r))) prm_ ?_
 refine AU2 ?_
 refine JLp (y_build (cells := ([iv 3, .string ByteArray.empty, .string ByteArray.empty, .string ByteArray.empty, .string ByteArray.empty, .int .i64 0, .int .i64 0, .string ByteArray.empty, .string ByteArray.empty, .int .i64 0, .slice none 0 0, .slice none 0 0, .string ByteArray.empty, .string ByteArray.empty, .int .i64 0, .int .i64 0, .string ByteArray.empty, .string ByteArray.empty, .string ByteArray.empty, .string ByteArray.empty, .int .i64 0, .slice none 0 0, .slice none 0 0, .string ByteArray.empty, .string ByteArray.empty, .int .i64 0, .slice none 0 0, .slice none 0 0, .int .i64 0, .int .i64 0]).toArray) (by kernel_rfl)) ?_
 refine JLs (e_alloc fun b11 => ?_)
 refine JLs (e_store 0 rfl rfl rfl (vs := [iv 3, .string ByteArray.empty, .string ByteArray.empty, .string ByteArray.empty, .string ByteArray.empty, .int .i64 0, .int .i64 0, .string ByteArray.empty, .string ByteArray.empty, .int .i64 0, .slice none 0 0, .slice none 0 0, .string ByteArray.empty, .string ByteArray.empty, .int .i64 0, .int .i64 0, .string ByteArray.empty, .string ByteArray.empty, .string ByteArray.empty, .string ByteArray.empty, .int .i64 0, .slice none 0 0, .slice none 0 0, .string ByteArray.empty, .string ByteArray.empty, .int .i64 0, .slice none 0 0, .slice none 0 0, .int .i64 0, .int .i64 0]) rfl rfl rfl lE_ ?_)
 refine JL.cast (l' := (b11, isC 207 [iv 3, .string ByteArray.empty, .string ByteArray.empty, .string ByteArray.empty, .string ByteArray.empty, .int .i64 0, .int .i64 0, .string ByteArray.empty, .string ByteArray.empty, .int .i64 0, .slice none 0 0, .slice none 0 0, .string ByteArray.empty, .string ByteArray.empty, .int .i64 0, .int .i64 0, .string ByteArray.empty, .string ByteArray.empty, .string ByteArray.empty, .string ByteArray.empty, .int .i64 0, .slice none 0 0, .slice none 0 0, .string ByteArray.empty, .string ByteArray.empty, .int .i64 0, .slice none 0 0, .slice none 0 0, .int .i64 0, .int .i64 0]) :: (b7, isC 55 [bv ka, bv kbb, bv kc, bv kd, bv ke, bv kf, bv kg, bv ki, bv kj, bv kk, bv kl, bv km, bv kn, bv ko, bv kp, bv kq, bv kA, bv kB, bv kC, bv kD, bv kE, bv kF, bv kG, bv kI, bv kJ, bv kK, bv kL, bv kM, bv kN, bv kO, bv kP, bv kQ]) :: (b9, isC 207 ((Mg.tg ⟨⟨tk.sv_, (tk.kv : Int), Se.sealB (K it.k) 2 (BitVec.ofNat 64 tk.n) tk.pa.pa.byts⟩, Se.sealB tk.pa.pa.ses 7 (BitVec.ofNat 64 au.n) au.a.byts, s, till, nc⟩).cells w1 w2)) :: kdcE kb rb t1 t2 t3 k :: (RH ++ (le0 ++ r))) rfl ?_
 refine AU3 ?_
 refine JLs (e_call (vs := [ptr kb, _, iv now, .agg ((K d).map bv).toArray]) rfl (by rw [hkk]; rfl) (Tr.perm (l' := kdcE kb rb t1 t2 t3 k :: (RH ++ ((b11, isC 207 [iv 3, .string ByteArray.empty, .string ByteArray.empty, .string ByteArray.empty, .string ByteArray.empty, .int .i64 0, .int .i64 0, .string ByteArray.empty, .string ByteArray.empty, .int .i64 0, .slice none 0 0, .slice none 0 0, .string ByteArray.empty, .string ByteArray.empty, .int .i64 0, .int .i64 0, .string ByteArray.empty, .string ByteArray.empty, .string ByteArray.empty, .string ByteArray.empty, .int .i64 0, .slice none 0 0, .slice none 0 0, .string ByteArray.empty, .string ByteArray.empty, .int .i64 0, .slice none 0 0, .slice none 0 0, .int .i64 0, .int .i64 0]) :: (b7, isC 55 [bv ka, bv kbb, bv kc, bv kd, bv ke, bv kf, bv kg, bv ki, bv kj, bv kk, bv kl, bv km, bv kn, bv ko, bv kp, bv kq, bv kA, bv kB, bv kC, bv kD, bv kE, bv kF, bv kG, bv kI, bv kJ, bv kK, bv kL, bv kM, bv kN, bv kO, bv kP, bv kQ]) :: (b9, isC 207 ((Mg.tg ⟨⟨tk.sv_, (tk.kv : Int), Se.sealB (K it.k) 2 (BitVec.ofNat 64 tk.n) tk.pa.pa.byts⟩, Se.sealB tk.pa.pa.ses 7 (BitVec.ofNat 64 au.n) au.a.byts, s, till, nc⟩).cells w1 w2)) :: (le0 ++ r)))) prm_ (Tgs_ok hB hm (by omega) (by omega) q3 a4 hg (hm0.1.mono fun e he => by simp [he]) (hm0.2.mono fun e he => by simp [he]) (tmb_spec c2') c4 c3 hl1 c6 c7 c10 c11 c12 c13 (fun r' hr' => htg' r' fun e he => hr' e (by simp [he])) (fun r' => hps' r') hl2 (okPb_spec m2) d m4 m5 hpg)) ?_)
 rintro v l' ⟨w3, w4, le, rfl, hw3, hw4, rfl⟩
 refine JL.perm (l' := (b11, isC 207 [iv 3, .string ByteArray.empty, .string ByteArray.empty, .string ByteArray.empty, .string ByteArray.empty, .int .i64 0, .int .i64 0, .string ByteArray.empty, .string ByteArray.empty, .int .i64 0, .slice none 0 0, .slice none 0 0, .string ByteArray.empty, .string ByteArray.empty, .int .i64 0, .int .i64 0, .string ByteArray.empty, .string ByteArray.empty, .string ByteArray.empty, .string ByteArray.empty, .int .i64 0, .slice none 0 0, .slice none 0 0, .string ByteArray.empty, .string ByteArray.empty, .int .i64 0, .slice none 0 0, .slice none 0 0, .int .i64 0, .int .i64 0]) :: (b9, isC 207 ((Mg.tg ⟨⟨tk.sv_, (tk.kv : Int), Se.sealB (K it.k) 2 (BitVec.ofNat 64 tk.n) tk.pa.pa.byts⟩, Se.sealB tk.pa.pa.ses 7 (BitVec.ofNat 64 au.n) au.a.byts, s, till, nc⟩).cells w1 w2)) :: (kdcE kb rb t1 t2 t3 ⟨k.r, k.n + 2, k.iss + 1, k.its⟩) :: (RH ++ (le ++ ((b7, isC 55 [bv ka, bv kbb, bv kc, bv kd, bv ke, bv kf, bv kg, bv ki, bv kj, bv kk, bv kl, bv km, bv kn, bv ko, bv kp, bv kq, bv kA, bv kB, bv kC, bv kD, bv kE, bv kF, bv kG, bv kI, bv kJ, bv kK, bv kL, bv kM, bv kN, bv kO, bv kP, bv kQ]) :: (le0 ++ r))))) (by unfold kdcE; exact prm_) ?_
 refine AU0 ?_
 refine JLs (e_store 0 rfl rfl rfl (vs := [sv tk.pa.cl.1, sv tk.pa.cl.2, sv to.1, sv to.2, iv it2.kv, w3, w4]) rfl rfl (by obtain ⟨_, _, rfl, -⟩ := hw3; obtain ⟨_, _, rfl, -⟩ := hw4; rfl) lE_ ?_)
 refine JL.cast (l' := (b11, isC 207 ((Mg.rep ⟨tk.pa.cl, ⟨to, it2.kv, Se.sealB (K it2.k) 2 (BitVec.ofNat 64 (k.n + 1)) (Pa.mk tk.pa.cl (K d) (cat tr2) now (min till tk.pa.en)).byts⟩, Se.sealB (K tk.pa.ses) 8 (BitVec.ofNat 64 (k.n + 2)) (RP.mk (K d) to now (min till tk.pa.en) nc).byts⟩).cells w3 w4)) :: (b9, isC 207 ((Mg.tg ⟨⟨tk.sv_, (tk.kv : Int), Se.sealB (K it.k) 2 (BitVec.ofNat 64 tk.n) tk.pa.pa.byts⟩, Se.sealB tk.pa.pa.ses 7 (BitVec.ofNat 64 au.n) au.a.byts, s, till, nc⟩).cells w1 w2)) :: (kdcE kb rb t1 t2 t3 ⟨k.r, k.n + 2, k.iss + 1, k.its⟩) :: (RH ++ (le ++ ((b7, isC 55 [bv ka, bv kbb, bv kc, bv kd, bv ke, bv kf, bv kg, bv ki, bv kj, bv kk, bv kl, bv km, bv kn, bv ko, bv kp, bv kq, bv kA, bv kB, bv kC, bv kD, bv kE, bv kF, bv kG, bv kI, bv kJ, bv kK, bv kL, bv kM, bv kN, bv kO, bv kP, bv kQ]) :: (le0 ++ r))))) rfl ?_
 refine AU2 ?_
 refine JLs (e_call rfl rfl (Encode_mg (m := .rep ⟨tk.pa.cl, ⟨to, it2.kv, Se.sealB (K it2.k) 2 (BitVec.ofNat 64 (k.n + 1)) (Pa.mk tk.pa.cl (K d) (cat tr2) now (min till tk.pa.en)).byts⟩, Se.sealB (K tk.pa.ses) 8 (BitVec.ofNat 64 (k.n + 2)) (RP.mk (K d) to now (min till tk.pa.en) nc).byts⟩) (MS.okb_spec m6) ⟨hw3.mono fun e he => by simp [he], hw4.mono fun e he => by simp [he]⟩) ?_)
 rintro v l' ⟨v5, le5, rfl, ho5, rfl⟩
 refine AU0 ?_
 refine JC.sub (l' := le5 ++ (kdcE kb rb t1 t2 t3 ⟨k.r, k.n + 2, k.iss + 1, k.its⟩ :: (RH ++ r))) (List.Sublist.append_left (List.Sublist.cons _ (List.Sublist.cons _ (List.Sublist.cons_cons _ (List.Sublist.append_left (((List.sublist_append_right le0 r).trans (List.sublist_cons_self _ _)).trans (List.sublist_append_right le _)) _)))) _) ?_
 exact JC.ret (RT.one rfl rfl (by conv => lhs; whnf) ⟨le5, ho5, rfl⟩)
theorem Handle_ok {T : Topo} {k k' : KdcS} {m m' : MS} {now : Int} {d : Nat} (h : handleM T k m now d = some (k', m')) {kb rb : Nat} {t1 t2 t3 : Value} {bl : List RB} {RH r : List Ent} {W : World} (hB : RingB rb bl RH) (hbl : bl.map RB.it = k.its) (hm : bl.length ≤ 1000) (hT : TopoV W r [t1, t2, t3] T) {v : Value} (hv : BV W r v m.mg.byts) :
  Tr Pg 94 #[ptr kb, v, iv now, .agg ((K d).map bv).toArray] W (kdcE kb rb t1 t2 t3 k :: (RH ++ r)) fun v l' => ∃ le, OwnB v m'.mg.byts le ∧ l' = le ++ (kdcE kb rb t1 t2 t3 k' :: (RH ++ r)) := by
 cases m with
 | aq q => exact HandleA_ok h hB hbl hm hv
 | tg tk au s till nc => exact HandleT_ok h hB hbl hm hT hv
 | rep _ _ _ => cases h
 | ap _ _ => cases h
end Go.Proofs.YtbalcgjphkdecaaGreatDoor.To
namespace Go.Proofs.YtbalcgjphkdecaaGreatDoor.To
open Go.RowKit Go.Lg
set_option maxRecDepth 100000
theorem handleM_spec {T : Topo} {k k' : KdcS} {m m' : MS} {now : Int} {d : Nat} (h : handleM T k m now d = some (k', m')) : m.okb = true ∧ m'.okb = true ∧ k' = ⟨k.r, k.n + 2, k.iss + 1, k.its⟩ ∧ k.iss ≤ 1000000 := by
 unfold handleM at h
 split at h
 ·unfold asM at h
  split at h
  case h_2 => cases h
  split at h
  case isFalse => cases h
  rename_i hc
  simp only [Bool.and_eq_true] at hc
  obtain ⟨i3, it3, hl3, m1, m2, m3, m4, m5, m6, m7, m8⟩ := makesM_spec h
  exact ⟨hc.1.1.1.1.1, m8, m6, m5⟩
 ·unfold tgsM at h
  split at h
  case h_2 => cases h
  split at h
  case h_2 => cases h
  split at h
  case isFalse => cases h
  rename_i hc
  simp only [Bool.and_eq_true] at hc
  obtain ⟨i3, it3, hl3, m1, m2, m3, m4, m5, m6, m7, m8⟩ := makesM_spec h
  exact ⟨hc.1.1.1.1.1.1.1.1.1.1.1.1, m8, m6, m5⟩
 ·cases h
theorem mg_len (m : Mg) (a b : Value) : (m.cells a b).length = 30 := by cases m <;> rfl
theorem mg_one (m : Mg) (A B : Option Addr) (n c n' c' : Nat) : (m.cells (.slice A n c) (.slice B n' c')).all (·.oneCell') = true := by cases m <;> rfl
theorem mg_tg (m : Mg) (A B : Option Addr) (n c n' c' : Nat) : ∃ a b kv A1 n1 c1, seg (m.cells (.slice A n c) (.slice B n' c')) (0 + 7 + 0) 4 = [sv a, sv b, iv kv, .slice A1 n1 c1] := by
 cases m <;> exact ⟨_, _, _, _, _, _, rfl⟩
theorem mg_rep (m : Mg) (A B : Option Addr) (n c n' c' : Nat) : ∃ a b kv A1 n1 c1, seg (m.cells (.slice A n c) (.slice B n' c')) (0 + 16 + 2) 4 = [sv a, sv b, iv kv, .slice A1 n1 c1] := by
 cases m <;> exact ⟨_, _, _, _, _, _, rfl⟩
attribute [local irreducible] JC JL JD RN RT Eff Yld YldIf Tr partsL okR splitL wordB joinD fit betweenS laidS viaS De.wrapB De.num De.clampI K Se.sealB Pa.byts Au.byts RP.byts Mg.byts Se.inc tillM Sp.kst
set_option maxHeartbeats 4000000 in
theorem handles_ok {w : WS} {i : Nat} {k k' : KdcS} {m m' : MS} {fr to : Int} (hk : w.kd[i]? = some k) (hh : handleM w.T k m (nowM w.ck to) w.dr = some (k', m')) (hlen : w.net.length < 32) (hs : w.seen ≤ 1000000) (hd : w.dr ≤ 1000000) (hi : w.iss ≤ 1000000) {b : Nat} {H r : List Ent} {W : World} (hB : WorldB W b w H)
  {vA : Option Addr} {vn vc : Nat} (hv : BV W r (.slice vA vn vc) m.mg.byts) :
  Tr Pg 53 #[ptr b, iv (i : Int), .agg #[iv fr, iv to, .slice vA vn vc]] W (H ++ r) fun v l' => v = .tuple #[] ∧
   ∃ H', WorldB W b { w with kd := w.kd.set i k', dr := w.dr + 1, net := w.net ++ [(to, fr, m')], seen := w.seen + 1, iss := w.iss + 1 } H' ∧ l' = H' ++ r := by
 obtain ⟨hok, hok', rfl, hiss⟩ := handleM_spec hh
 obtain ⟨L, hw, rfl⟩ := hB
 have hkn := hw.kn
 have hii : i < w.kd.length := (List.getElem?_eq_some_iff.1 hk).1
 obtain ⟨g, cap, he, -, -, hkl⟩ := De.own_some hw.k (by omega)
 injection he with he1 _ he3
 obtain ⟨⟨rb, kb⟩, KA, H1, KB, hkb, ⟨t1, t2, t3, RH, TH2, bl, hT, hR, hbl, hits, rfl⟩, hKH, hset⟩ := hw.kh.get hk
 dsimp only at hR hKH hset
 have hm : bl.length ≤ 1000 := by have := congrArg List.length hbl; rw [List.length_map] at this; omega
 refine Tr.perm (l' := wE b L w :: (L.mb, isMi w.ck) :: spE L.sb L.sm :: (g, isR 106 (cap * 1) (L.kid.map fun q => ptr q.2)) :: kdcE kb rb t1 t2 t3 k :: (RH ++ (TH2 ++ (L.TH ++ (L.rl ++ (KA ++ (KB ++ (L.cl ++ (L.CH ++ (L.sl ++ (L.al ++ (L.AH ++ (L.NH ++ (L.acl ++ (L.AccH ++ (L.isl ++ r)))))))))))))))) (by unfold WL.H mE; rw [hkl, hKH]; exact prm_) ?_
 refine Tr.of_code (args := [_, _, _]) Tryz.func53 rfl Tryz.ntmps53 lE_ ?_
 refine AU0 ?_
 refine JLs (e_box (cs := [iv fr, iv to, .slice vA vn vc]) rfl rfl fun b5 => ?_)
 refine AU0 ?_
 refine JL.read 1 rfl rfl (r_load1 (v := .slice (some ⟨g, 0, none⟩) w.kd.length cap) rfl (by rw [← he1, ← he3]; rfl)) ?_
 repeat (first | refine JLp (y_index (j := i) rfl rfl hii) ?_ | refine AS0 ?_)
 refine JL.read 4 rfl rfl (r_loadR1 rfl (by rw [List.getElem?_map, Nat.zero_add, Nat.mul_one, hkb]; rfl)) ?_
 refine AU0 ?_
 have hiss1 : ∀ (kk : KdcS) (r' : List Ent), Tr Pg 93 #[ptr kb] W (kdcE kb rb t1 t2 t3 kk :: r') fun v l' => v = iv (kk.iss : Int) ∧ l' = kdcE kb rb t1 t2 t3 kk :: r' := fun kk r' => Issued_ok
 refine JLs (e_call rfl rfl (Tr.perm (l' := kdcE kb rb t1 t2 t3 k :: ((b5, isC 64 [iv fr, iv to, .slice vA vn vc]) :: wE b L w :: (L.mb, isMi w.ck) :: spE L.sb L.sm :: (g, isR 106 (cap * 1) (L.kid.map fun q => ptr q.2)) :: (RH ++ (TH2 ++ (L.TH ++ (L.rl ++ (KA ++ (KB ++ (L.cl ++ (L.CH ++ (L.sl ++ (L.al ++ (L.AH ++ (L.NH ++ (L.acl ++ (L.AccH ++ (L.isl ++ r))))))))))))))))) prm_ (hiss1 k _)) ?_)
 rintro v l' ⟨rfl, rfl⟩
 refine JL.perm (l' := (b5, isC 64 [iv fr, iv to, .slice vA vn vc]) :: wE b L w :: (L.mb, isMi w.ck) :: spE L.sb L.sm :: (g, isR 106 (cap * 1) (L.kid.map fun q => ptr q.2)) :: kdcE kb rb t1 t2 t3 k :: (RH ++ (TH2 ++ (L.TH ++ (L.rl ++ (KA ++ (KB ++ (L.cl ++ (L.CH ++ (L.sl ++ (L.al ++ (L.AH ++ (L.NH ++ (L.acl ++ (L.AccH ++ (L.isl ++ r)))))))))))))))) prm_ ?_
 refine AU0 ?_
 refine JC.cut (fun f l' => ∃ xA xc le, FrOk f [(0, ptr b), (1, iv (i : Int)), (5, ptr b5), (6, ptr kb), (7, iv (k.iss : Int)), (8, .slice xA m'.mg.byts.length xc)] ∧ BV W le (.slice xA m'.mg.byts.length xc) m'.mg.byts ∧ l' = le ++ (kdcE kb rb t1 t2 t3 ⟨k.r, k.n + 2, k.iss + 1, k.its⟩ :: (RH ++ ((b5, isC 64 [iv fr, iv to, .slice vA vn vc]) :: wE b L { w with dr := w.dr + 1 } :: (L.mb, isMi w.ck) :: spE L.sb true :: (g, isR 106 (cap * 1) (L.kid.map fun q => ptr q.2)) :: (TH2 ++ (L.TH ++ (L.rl ++ (KA ++ (KB ++ (L.cl ++ (L.CH ++ (L.sl ++ (L.al ++ (L.AH ++ (L.NH ++ (L.acl ++ (L.AccH ++ (L.isl ++ r)))))))))))))))))) ?_ fun K' hT2 => ?_
 rotate_left
 refine JC.drawn 14 rfl mixed ?_
 refine JDp 0 rfl y_mv ?_
 refine JDp 1 rfl (y_fieldAddr rfl) ?_
 refine JDr 2 0 rfl rfl (r_load1 rfl rfl) ?_
 refine JDp 3 rfl y_mv ?_
 refine JDp 4 rfl (y_nilCheck rfl) ?_
 refine JDp 5 rfl (y_fieldAddr rfl) ?_
 refine JDp 7 rfl (y_fieldAddr rfl) ?_
 refine JDr 8 0 rfl rfl (r_load1 rfl rfl) ?_
 refine JDp 10 rfl y_mv ?_
 refine JD.eff2 6 11 (by kernel_rfl) rfl rfl rfl rfl (Eff.read 1 rfl (r_load1 (v := .map (some L.mb)) rfl rfl) ⟨tok_, ?_⟩) (e_call rfl rfl (Tr.perm (l' := wE b L w :: spE L.sb L.sm :: ((b5, isC 64 [iv fr, iv to, .slice vA vn vc]) :: (L.mb, isMi w.ck) :: (g, isR 106 (cap * 1) (L.kid.map fun q => ptr q.2)) :: kdcE kb rb t1 t2 t3 k :: (RH ++ (TH2 ++ (L.TH ++ (L.rl ++ (KA ++ (KB ++ (L.cl ++ (L.CH ++ (L.sl ++ (L.al ++ (L.AH ++ (L.NH ++ (L.acl ++ (L.AccH ++ (L.isl ++ r))))))))))))))))) prm_ (draw_ok hd rfl)) ?_)
 ·refine JDr 9 2 rfl rfl (r_lookupI zero_int rfl rfl) ?_
  refine JDe 11 rfl (e_call rfl rfl (Tr.perm (l' := wE b L w :: spE L.sb L.sm :: ((b5, isC 64 [iv fr, iv to, .slice vA vn vc]) :: (L.mb, isMi w.ck) :: (g, isR 106 (cap * 1) (L.kid.map fun q => ptr q.2)) :: kdcE kb rb t1 t2 t3 k :: (RH ++ (TH2 ++ (L.TH ++ (L.rl ++ (KA ++ (KB ++ (L.cl ++ (L.CH ++ (L.sl ++ (L.al ++ (L.AH ++ (L.NH ++ (L.acl ++ (L.AccH ++ (L.isl ++ r))))))))))))))))) prm_ (draw_ok hd rfl)) ?_)
  rintro v l' ⟨rfl, rfl⟩
  refine ⟨tok_, ?_⟩
  refine JD.perm (l' := (b5, isC 64 [iv fr, iv to, .slice vA vn vc]) :: wE b L { w with dr := w.dr + 1 } :: (L.mb, isMi w.ck) :: spE L.sb true :: (g, isR 106 (cap * 1) (L.kid.map fun q => ptr q.2)) :: kdcE kb rb t1 t2 t3 k :: (RH ++ (TH2 ++ (L.TH ++ (L.rl ++ (KA ++ (KB ++ (L.cl ++ (L.CH ++ (L.sl ++ (L.al ++ (L.AH ++ (L.NH ++ (L.acl ++ (L.AccH ++ (L.isl ++ r)))))))))))))))) prm_ ?_
  refine JDe 12 rfl (e_call rfl rfl (Tr.perm (l' := kdcE kb rb t1 t2 t3 k :: (RH ++ ((b5, isC 64 [iv fr, iv to, .slice vA vn vc]) :: wE b L { w with dr := w.dr + 1 } :: (L.mb, isMi w.ck) :: spE L.sb true :: (g, isR 106 (cap * 1) (L.kid.map fun q => ptr q.2)) :: (TH2 ++ (L.TH ++ (L.rl ++ (KA ++ (KB ++ (L.cl ++ (L.CH ++ (L.sl ++ (L.al ++ (L.AH ++ (L.NH ++ (L.acl ++ (L.AccH ++ (L.isl ++ r))))))))))))))))) prm_ (Handle_ok hh hR hbl hm (hT.mono fun e he => by simp [he]) (hv.mono fun e he => by simp [he]))) ?_)
  rintro v l' ⟨le, ho, rfl⟩
  obtain ⟨xA, xc, rfl, hxs⟩ := BV.own (W := W) ho
  refine ⟨tok_, ?_⟩
  refine JDp 13 rfl y_as ?_
  refine JDd ?_
  exact hT2 _ _ ⟨xA, xc, le, ⟨rfl, rfl, rfl, rfl, rfl, rfl, trivial⟩, ⟨xA, xc, rfl, hxs⟩, rfl⟩
 ·rintro v l' ⟨rfl, rfl⟩
  refine ⟨tok_, ?_⟩
  refine JD.perm (l' := (b5, isC 64 [iv fr, iv to, .slice vA vn vc]) :: wE b L { w with dr := w.dr + 1 } :: (L.mb, isMi w.ck) :: spE L.sb true :: (g, isR 106 (cap * 1) (L.kid.map fun q => ptr q.2)) :: kdcE kb rb t1 t2 t3 k :: (RH ++ (TH2 ++ (L.TH ++ (L.rl ++ (KA ++ (KB ++ (L.cl ++ (L.CH ++ (L.sl ++ (L.al ++ (L.AH ++ (L.NH ++ (L.acl ++ (L.AccH ++ (L.isl ++ r)))))))))))))))) prm_ ?_
  refine JDe 6 rfl (Eff.read 1 rfl (r_load1 (v := .map (some L.mb)) rfl rfl) ⟨tok_, ?_⟩)
  refine JDr 9 2 rfl rfl (r_lookupI zero_int rfl rfl) ?_
  refine JDe 12 rfl (e_call rfl rfl (Tr.perm (l' := kdcE kb rb t1 t2 t3 k :: (RH ++ ((b5, isC 64 [iv fr, iv to, .slice vA vn vc]) :: wE b L { w with dr := w.dr + 1 } :: (L.mb, isMi w.ck) :: spE L.sb true :: (g, isR 106 (cap * 1) (L.kid.map fun q => ptr q.2)) :: (TH2 ++ (L.TH ++ (L.rl ++ (KA ++ (KB ++ (L.cl ++ (L.CH ++ (L.sl ++ (L.al ++ (L.AH ++ (L.NH ++ (L.acl ++ (L.AccH ++ (L.isl ++ r))))))))))))))))) prm_ (Handle_ok hh hR hbl hm (hT.mono fun e he => by simp [he]) (hv.mono fun e he => by simp [he]))) ?_)
  rintro v l' ⟨le, ho, rfl⟩
  obtain ⟨xA, xc, rfl, hxs⟩ := BV.own (W := W) ho
  refine ⟨tok_, ?_⟩
  refine JDp 13 rfl y_as ?_
  refine JDd ?_
  exact hT2 _ _ ⟨xA, xc, le, ⟨rfl, rfl, rfl, rfl, rfl, rfl, trivial⟩, ⟨xA, xc, rfl, hxs⟩, rfl⟩
 rintro f l' ⟨xA, xc, le, hf, hx, rfl⟩
 refine RN.frame _ hf fun f' => ?_
 refine RN.perm (l' := (b5, isC 64 [iv fr, iv to, .slice vA vn vc]) :: wE b L { w with dr := w.dr + 1 } :: (L.mb, isMi w.ck) :: spE L.sb true :: (g, isR 106 (cap * 1) (L.kid.map fun q => ptr q.2)) :: kdcE kb rb t1 t2 t3 ⟨k.r, k.n + 2, k.iss + 1, k.its⟩ :: (RH ++ (TH2 ++ (le ++ (L.TH ++ (L.rl ++ (KA ++ (KB ++ (L.cl ++ (L.CH ++ (L.sl ++ (L.al ++ (L.AH ++ (L.NH ++ (L.acl ++ (L.AccH ++ (L.isl ++ r))))))))))))))))) prm_ ?_
 refine AU0 ?_
 refine JLs (e_call rfl rfl (Tr.perm (l' := kdcE kb rb t1 t2 t3 ⟨k.r, k.n + 2, k.iss + 1, k.its⟩ :: ((b5, isC 64 [iv fr, iv to, .slice vA vn vc]) :: wE b L { w with dr := w.dr + 1 } :: (L.mb, isMi w.ck) :: spE L.sb true :: (g, isR 106 (cap * 1) (L.kid.map fun q => ptr q.2)) :: (RH ++ (TH2 ++ (le ++ (L.TH ++ (L.rl ++ (KA ++ (KB ++ (L.cl ++ (L.CH ++ (L.sl ++ (L.al ++ (L.AH ++ (L.NH ++ (L.acl ++ (L.AccH ++ (L.isl ++ r)))))))))))))))))) prm_ (hiss1 ⟨k.r, k.n + 2, k.iss + 1, k.its⟩ _)) ?_)
 rintro v l' ⟨rfl, rfl⟩
 refine JL.perm (l' := (b5, isC 64 [iv fr, iv to, .slice vA vn vc]) :: wE b L { w with dr := w.dr + 1 } :: (L.mb, isMi w.ck) :: spE L.sb true :: (g, isR 106 (cap * 1) (L.kid.map fun q => ptr q.2)) :: kdcE kb rb t1 t2 t3 ⟨k.r, k.n + 2, k.iss + 1, k.its⟩ :: (RH ++ (TH2 ++ (le ++ (L.TH ++ (L.rl ++ (KA ++ (KB ++ (L.cl ++ (L.CH ++ (L.sl ++ (L.al ++ (L.AH ++ (L.NH ++ (L.acl ++ (L.AccH ++ (L.isl ++ r))))))))))))))))) prm_ ?_
 repeat (first | refine JLp (y_gtr (a := ((k.iss + 1 : Nat) : Int)) (b := (k.iss : Int)) rfl rfl (decide_eq_true (by omega))) ?_ | refine AS1 ?_)
 refine JLs (e_call rfl rfl (Decode_ok (MS.okb_spec hok) (hv.mono fun e he => by simp [he])) ?_)
 rintro v l' ⟨w1, w2, le1, rfl, hm0, rfl⟩
 obtain ⟨⟨q1, o1, rfl, -⟩, ⟨q2, o2, rfl, -⟩⟩ := id hm0
 refine JL.sub (List.sublist_append_right le1 _) ?_
 refine AU0 ?_
 refine JLs (e_alloc fun b9 => ?_)
 refine JLs (e_store 0 rfl rfl rfl (vs := m.mg.cells (.slice q1 m.mg.b1.length o1) (.slice q2 m.mg.b2.length o2)) rfl (mg_len ..) (mg_one ..) lE_ ?_)
 refine JL.cast (l' := (b9, isC 207 (m.mg.cells (.slice q1 m.mg.b1.length o1) (.slice q2 m.mg.b2.length o2))) :: (b5, isC 64 [iv fr, iv to, .slice vA vn vc]) :: wE b L { w with dr := w.dr + 1 } :: (L.mb, isMi w.ck) :: spE L.sb true :: (g, isR 106 (cap * 1) (L.kid.map fun q => ptr q.2)) :: kdcE kb rb t1 t2 t3 ⟨k.r, k.n + 2, k.iss + 1, k.its⟩ :: (RH ++ (TH2 ++ (le ++ (L.TH ++ (L.rl ++ (KA ++ (KB ++ (L.cl ++ (L.CH ++ (L.sl ++ (L.al ++ (L.AH ++ (L.NH ++ (L.acl ++ (L.AccH ++ (L.isl ++ r))))))))))))))))) (by rw [spl_all _ _ (by rw [mg_len]; rfl)]; rfl) ?_
 refine AU0 ?_
 refine JLs (e_call rfl rfl (Decode_ok (MS.okb_spec hok') (hx.mono fun e he => by simp [he])) ?_)
 rintro v l' ⟨w3, w4, le2, rfl, hm1, rfl⟩
 obtain ⟨⟨q3, o3, rfl, -⟩, ⟨q4, o4, rfl, -⟩⟩ := id hm1
 refine JL.sub (List.sublist_append_right le2 _) ?_
 refine AU0 ?_
 refine JLs (e_alloc fun bb => ?_)
 refine JLs (e_store 0 rfl rfl rfl (vs := m'.mg.cells (.slice q3 m'.mg.b1.length o3) (.slice q4 m'.mg.b2.length o4)) rfl (mg_len ..) (mg_one ..) lE_ ?_)
 refine JL.cast (l' := (bb, isC 207 (m'.mg.cells (.slice q3 m'.mg.b1.length o3) (.slice q4 m'.mg.b2.length o4))) :: (b9, isC 207 (m.mg.cells (.slice q1 m.mg.b1.length o1) (.slice q2 m.mg.b2.length o2))) :: (b5, isC 64 [iv fr, iv to, .slice vA vn vc]) :: wE b L { w with dr := w.dr + 1 } :: (L.mb, isMi w.ck) :: spE L.sb true :: (g, isR 106 (cap * 1) (L.kid.map fun q => ptr q.2)) :: kdcE kb rb t1 t2 t3 ⟨k.r, k.n + 2, k.iss + 1, k.its⟩ :: (RH ++ (TH2 ++ (le ++ (L.TH ++ (L.rl ++ (KA ++ (KB ++ (L.cl ++ (L.CH ++ (L.sl ++ (L.al ++ (L.AH ++ (L.NH ++ (L.acl ++ (L.AccH ++ (L.isl ++ r))))))))))))))))) (by rw [spl_all _ _ (by rw [mg_len]; rfl)]; rfl) ?_
 refine AU0 ?_
 have hir : i < w.T.rs.length := Nat.lt_of_lt_of_le hii hw.kr
 obtain ⟨A1, c1, A2, c2, A3, c3, xs, hvs, -, hr1, -⟩ := id hw.t
 obtain ⟨e1, e2⟩ : L.t1A = A1 ∧ L.t1c = c1 := by injection hvs with e _; injection e with e1 _ e3; exact ⟨e1, e3⟩
 rw [← e1, ← e2] at hr1
 obtain ⟨gb, go, hgA, S', hS, hcs⟩ := hr1.1.look (by rw [List.length_map]; omega)
 obtain ⟨a1, a2, a3, a4, a5, a6, hsg1⟩ := mg_tg m.mg q1 q2 m.mg.b1.length o1 m.mg.b2.length o2
 obtain ⟨d1, d2, d3, d4, d5, d6, hsg2⟩ := mg_rep m'.mg q3 q4 m'.mg.b1.length o3 m'.mg.b2.length o4
 refine JC.perm (l' := (bb, isC 207 (m'.mg.cells (.slice q3 m'.mg.b1.length o3) (.slice q4 m'.mg.b2.length o4))) :: (b9, isC 207 (m.mg.cells (.slice q1 m.mg.b1.length o1) (.slice q2 m.mg.b2.length o2))) :: (b5, isC 64 [iv fr, iv to, .slice vA vn vc]) :: wE b L { w with dr := w.dr + 1 } :: (L.isl ++ ((L.mb, isMi w.ck) :: spE L.sb true :: (g, isR 106 (cap * 1) (L.kid.map fun q => ptr q.2)) :: kdcE kb rb t1 t2 t3 ⟨k.r, k.n + 2, k.iss + 1, k.its⟩ :: (RH ++ (TH2 ++ (le ++ (L.TH ++ (L.rl ++ (KA ++ (KB ++ (L.cl ++ (L.CH ++ (L.sl ++ (L.al ++ (L.AH ++ (L.NH ++ (L.acl ++ (L.AccH ++ r)))))))))))))))))) prm_ ?_
 unfold wE
 refine JC.drawn 25 rfl mixed ?_
 refine JDp 0 rfl y_mv ?_
 refine JDp 1 rfl y_mv ?_
 refine JDp 2 rfl (y_nilCheck rfl) ?_
 refine JDp 3 rfl (y_fieldAddr rfl) ?_
 refine JDr 4 3 rfl rfl (r_load1 rfl rfl) ?_
 refine JDp 5 rfl y_mv ?_
 refine JDp 6 rfl (y_nilCheck rfl) ?_
 refine JDp 7 rfl (y_fieldAddr rfl) ?_
 refine JDp 8 rfl (y_fieldAddr rfl) ?_
 refine JDr 9 3 rfl rfl (r_load1 (v := .slice (some ⟨gb, go, none⟩) w.T.rs.length L.t1c) rfl (by rw [← hgA]; rfl)) ?_
 refine JDp 10 rfl y_mv ?_
 refine JDp 11 rfl (y_index (j := i) rfl rfl hir) ?_
 refine JD.readS 12 S' L.TH rfl (by kernel_rfl) (by kernel_rfl) rfl hS (fun e he => by simp [he]) (y_loadIf (v := sv (w.T.rs[i]'hir)) rfl (fun ww hww => by have := hcs i (sv (w.T.rs[i]'hir)) (by rw [List.getElem?_map, List.getElem?_eq_getElem hir]; rfl) ww hww; simpa using this)) ?_
 refine JDp 13 rfl (y_fieldAddr rfl) ?_
 refine JDp 14 rfl (y_fieldAddr rfl) ?_
 refine JDr 15 1 rfl rfl (r_loadA (v := [sv a1, sv a2, iv a3, .slice a4 a5 a6]) rfl (by rw [mg_len]; decide) hsg1) ?_
 refine JDp 16 rfl (y_fieldAddr rfl) ?_
 refine JDp 17 rfl (y_fieldAddr rfl) ?_
 refine JDr 18 0 rfl rfl (r_loadA (v := [sv d1, sv d2, iv d3, .slice d4 d5 d6]) rfl (by rw [mg_len]; decide) hsg2) ?_
 refine JDp 19 rfl (y_build (cells := ([sv (w.T.rs[i]'hir), sv a1, sv a2, iv a3, .slice a4 a5 a6, sv d1, sv d2, iv d3, .slice d4 d5 d6]).toArray) (by kernel_rfl)) ?_
 refine JDe 20 rfl (e_buildSlice (cells := [sv (w.T.rs[i]'hir), sv a1, sv a2, iv a3, .slice a4 a5 a6, sv d1, sv d2, iv d3, .slice d4 d5 d6]) [.agg ([sv (w.T.rs[i]'hir), sv a1, sv a2, iv a3, .slice a4 a5 a6, sv d1, sv d2, iv d3, .slice d4 d5 d6]).toArray] rfl lE_ rfl (fun u hu => by cases List.mem_singleton.1 hu; rfl) rfl fun bs => ⟨tok_, ?_⟩)
 refine JDe 21 rfl (e_appendP [_, _, _, _, _] L.isl rfl rfl hw.is_ rfl (news := [sv (w.T.rs[i]'hir), sv a1, sv a2, iv a3, .slice a4 a5 a6, sv d1, sv d2, iv d3, .slice d4 d5 d6]) rfl (Src.whole (List.mem_cons_self ..)) (fun u hu => by simp only [List.mem_cons, List.not_mem_nil, or_false] at hu; rcases hu with rfl | rfl | rfl | rfl | rfl | rfl | rfl | rfl | rfl <;> rfl) (by omega) (by unfold maxLen; omega) fun v' lv' ho' _ => ⟨tok_, ?_⟩)
 obtain ⟨g9, cap9, rfl, hc1, hc2, -⟩ := De.own_some (id ho') (Nat.succ_pos _)
 refine JDp 22 rfl (y_nilCheck rfl) ?_
 refine JDp 23 rfl (y_fieldAddr rfl) ?_
 refine JDe 24 rfl (e_store 4 rfl rfl rfl (vs := [.slice (some ⟨g9, 0, none⟩) (w.iss + 1) cap9]) rfl rfl rfl lE_ ⟨tok_, ?_⟩)
 refine JDd ?_
 refine RN.cast (l' := _ :: (bb, isC 207 (m'.mg.cells (.slice q3 m'.mg.b1.length o3) (.slice q4 m'.mg.b2.length o4))) :: (b9, isC 207 (m.mg.cells (.slice q1 m.mg.b1.length o1) (.slice q2 m.mg.b2.length o2))) :: (b5, isC 64 [iv fr, iv to, .slice vA vn vc]) :: wE b { L with isA := some ⟨g9, 0, none⟩, isc := cap9 } { w with dr := w.dr + 1, iss := w.iss + 1 } :: (lv' ++ ((L.mb, isMi w.ck) :: spE L.sb true :: (g, isR 106 (cap * 1) (L.kid.map fun q => ptr q.2)) :: kdcE kb rb t1 t2 t3 ⟨k.r, k.n + 2, k.iss + 1, k.its⟩ :: (RH ++ (TH2 ++ (le ++ (L.TH ++ (L.rl ++ (KA ++ (KB ++ (L.cl ++ (L.CH ++ (L.sl ++ (L.al ++ (L.AH ++ (L.NH ++ (L.acl ++ (L.AccH ++ r)))))))))))))))))) rfl ?_
 have hw2 : WOk W { w with kd := w.kd.set i ⟨k.r, k.n + 2, k.iss + 1, k.its⟩, dr := w.dr + 1, iss := w.iss + 1 } { L with KH := KA ++ ((kdcE kb rb t1 t2 t3 ⟨k.r, k.n + 2, k.iss + 1, k.its⟩ :: (RH ++ TH2)) ++ KB), sm := true, isA := some ⟨g9, 0, none⟩, isc := cap9, isx := L.isx ++ [sv (w.T.rs[i]'hir), sv a1, sv a2, iv a3, .slice a4 a5 a6, sv d1, sv d2, iv d3, .slice d4 d5 d6], isl := lv' } :=
  { hw with
   r := by dsimp only; rw [List.length_set]; exact hw.r
   k := by dsimp only; rw [List.length_set]; exact hw.k
   kh := hset _ _ ⟨t1, t2, t3, RH, TH2, bl, hT, hR, hbl, hits, rfl⟩
   kn := by dsimp only; rw [List.length_set]; exact hw.kn
   kr := by dsimp only; rw [List.length_set]; exact hw.kr
   isn := by show w.iss + 1 ≤ 1000001; omega
   is_ := ho' }
 refine RN.sub (l' := (b5, isC 64 [iv fr, iv to, .slice vA vn vc]) :: wE b { L with isA := some ⟨g9, 0, none⟩, isc := cap9 } { w with dr := w.dr + 1, iss := w.iss + 1 } :: (lv' ++ ((L.mb, isMi w.ck) :: spE L.sb true :: (g, isR 106 (cap * 1) (L.kid.map fun q => ptr q.2)) :: kdcE kb rb t1 t2 t3 ⟨k.r, k.n + 2, k.iss + 1, k.its⟩ :: (RH ++ (TH2 ++ (le ++ (L.TH ++ (L.rl ++ (KA ++ (KB ++ (L.cl ++ (L.CH ++ (L.sl ++ (L.al ++ (L.AH ++ (L.NH ++ (L.acl ++ (L.AccH ++ r)))))))))))))))))) (List.sublist_append_right [_, _, _] _) ?_
 have hsn := send_ok hw2 hlen hok' hs (fr := to) (to := fr) (v := .slice xA m'.mg.byts.length xc) (r := (b5, isC 64 [iv fr, iv to, .slice vA vn vc]) :: wE b { L with isA := some ⟨g9, 0, none⟩, isc := cap9 } { w with dr := w.dr + 1, iss := w.iss + 1 } :: (lv' ++ ((L.mb, isMi w.ck) :: spE L.sb true :: (g, isR 106 (cap * 1) (L.kid.map fun q => ptr q.2)) :: kdcE kb rb t1 t2 t3 ⟨k.r, k.n + 2, k.iss + 1, k.its⟩ :: (RH ++ (TH2 ++ (le ++ (L.TH ++ (L.rl ++ (KA ++ (KB ++ (L.cl ++ (L.CH ++ (L.sl ++ (L.al ++ (L.AH ++ (L.acl ++ (L.AccH ++ r))))))))))))))))) (hx.mono fun e he => by simp [he])
 unfold wE
 refine AU0 ?_
 refine JC.drawn 11 rfl mixed ?_
 refine JDp 0 rfl y_mv ?_
 refine JDp 1 rfl (y_nilCheck rfl) ?_
 refine JDp 2 rfl (y_fieldAddr rfl) ?_
 refine JDr 3 1 rfl rfl (r_load1 rfl rfl) ?_
 refine JDp 4 rfl (y_fieldAddr rfl) ?_
 refine JDr 5 0 rfl rfl (r_load1 rfl rfl) ?_
 refine JDp 6 rfl (y_fieldAddr rfl) ?_
 refine JDr 7 0 rfl rfl (r_load1 rfl rfl) ?_
 refine JDp 8 rfl y_mv ?_
 refine JDp 9 rfl (y_build (cells := #[iv to, iv fr, .slice xA m'.mg.byts.length xc]) (by kernel_rfl)) ?_
 refine JDe 10 rfl (e_call rfl rfl (Tr.perm (l' := L.NH ++ ((b5, isC 64 [iv fr, iv to, .slice vA vn vc]) :: wE b { L with isA := some ⟨g9, 0, none⟩, isc := cap9 } { w with dr := w.dr + 1, iss := w.iss + 1 } :: (lv' ++ ((L.mb, isMi w.ck) :: spE L.sb true :: (g, isR 106 (cap * 1) (L.kid.map fun q => ptr q.2)) :: kdcE kb rb t1 t2 t3 ⟨k.r, k.n + 2, k.iss + 1, k.its⟩ :: (RH ++ (TH2 ++ (le ++ (L.TH ++ (L.rl ++ (KA ++ (KB ++ (L.cl ++ (L.CH ++ (L.sl ++ (L.al ++ (L.AH ++ (L.acl ++ (L.AccH ++ r)))))))))))))))))) (by unfold wE; exact prm_) hsn) ?_)
 rintro v l' ⟨rfl, NH', ss', hw', rfl⟩
 refine ⟨by unfold wE; repeat (first | exact TOk.nil | refine TOk.was ?_ | refine TOk.past (by decide +kernel) ?_ | refine TOk.mem (by simp) ?_), ?_⟩
 refine JDd ?_
 refine RN.perm (l' := (b5, isC 64 [iv fr, iv to, .slice vA vn vc]) :: (le ++ ((wE b { L with isA := some ⟨g9, 0, none⟩, isc := cap9 } { w with dr := w.dr + 1, iss := w.iss + 1 } :: (L.mb, isMi w.ck) :: spE L.sb true :: (L.TH ++ (L.rl ++ (L.kl ++ ((KA ++ ((kdcE kb rb t1 t2 t3 ⟨k.r, k.n + 2, k.iss + 1, k.its⟩ :: (RH ++ TH2)) ++ KB)) ++ (L.cl ++ (L.CH ++ (L.sl ++ (L.al ++ (L.AH ++ (NH' ++ (L.acl ++ (L.AccH ++ lv'))))))))))))) ++ r))) (by rw [hkl]; unfold wE; exact prm_) ?_
 refine RN.sub (((List.sublist_append_right le _)).cons _) ?_
 refine RN.none rfl ⟨rfl, _, ⟨_, hw', ?_⟩, rfl⟩
 unfold mE wE WL.H WL.c
 dsimp only
 rw [List.length_set]
end Go.Proofs.YtbalcgjphkdecaaGreatDoor.To
namespace Go.Proofs.YtbalcgjphkdecaaGreatDoor.To
open Go.RowKit Go.Lg
set_option maxRecDepth 100000
theorem wE_mem {b : Nat} {L : WL} {w : WS} {H r : List Ent} (h : H = wE b L w :: mE L w :: spE L.sb L.sm :: L.H) : wE b L w ∈ H ++ r := by
 rw [h]; exact List.mem_append_left _ (List.mem_cons_self ..)
attribute [local irreducible] JC JL JD RN RT Eff Yld YldIf Tr partsL okR splitL wordB joinD fit betweenS laidS viaS De.wrapB De.num De.clampI K Se.sealB Pa.byts Au.byts RP.byts Mg.byts Se.inc tillM Sp.kst
theorem sends_none {w : WS} {fr : Int} {z : S} (h : idxR w.T.rs z < 0) {b : Nat} {L : WL} {W : World} (hw : WOk W w L) {v : Value} {l : List Ent} (hm : wE b L w ∈ l) (hr : ∀ e ∈ L.TH, e ∈ l) :
  Tr Pg 49 #[ptr b, iv fr, sv z, v] W l fun v l' => v = .tuple #[] ∧ l' = l := by
 obtain ⟨i, hi⟩ := List.mem_iff_getElem?.1 hm
 unfold wE at hi
 obtain ⟨t1, -, -, -⟩ := topo_le hw.tt
 obtain ⟨A1, c1, A2, c2, A3, c3, xs, hvs, -, hr1, -⟩ := id hw.t
 obtain ⟨e1, e2⟩ : L.t1A = A1 ∧ L.t1c = c1 := by injection hvs with e _; injection e with e1 _ e3; exact ⟨e1, e3⟩
 rw [← e1, ← e2] at hr1
 refine Tr.of_code (args := [_, _, _, _]) Tryz.func49 rfl Tryz.ntmps49 lE_ ?_
 refine AU0 ?_
 refine JL.read i hi rfl (r_load1 rfl rfl) ?_
 refine AU0 ?_
 refine JLs (e_call rfl rfl (IndexS_ok z rfl (by omega) (hr1.1.mono hr)) ?_)
 rintro v l' ⟨rfl, rfl⟩
 have h' : idxF (fun y => decide (y = z)) w.T.rs 0 < 0 := h
 refine AU0 ?_
 exact RN.none rfl ⟨rfl, rfl⟩
set_option maxHeartbeats 4000000 in
theorem delivers_K {w : WS} {i : Nat} {k k' : KdcS} {m m' : MS} {fr to : Int} (hto : to = (i : Int)) (hk : w.kd[i]? = some k) (hh : handleM w.T k m (nowM w.ck to) w.dr = some (k', m')) (hlen : w.net.length < 32) (hs : w.seen ≤ 1000000) (hd : w.dr ≤ 1000000) (hi : w.iss ≤ 1000000) {b : Nat} {H r : List Ent} {W : World} (hB : WorldB W b w H)
  {vA : Option Addr} {vn vc : Nat} (hv : BV W r (.slice vA vn vc) m.mg.byts) :
  Tr Pg 21 #[ptr b, .agg #[iv fr, iv to, .slice vA vn vc]] W (H ++ r) fun v l' => v = .tuple #[] ∧
   ∃ H', WorldB W b { w with kd := w.kd.set i k', dr := w.dr + 1, net := w.net ++ [(to, fr, m')], seen := w.seen + 1, iss := w.iss + 1 } H' ∧ l' = H' ++ r := by
 have hB0 := hB
 obtain ⟨L, hw, hH⟩ := hB0
 have hkn := hw.kn
 have hii : i < w.kd.length := (List.getElem?_eq_some_iff.1 hk).1
 have hn : -1000000000 ≤ to ∧ to ≤ 1000000000 := by omega
 refine Tr.of_code (args := [_, _]) Tryz.func21 rfl Tryz.ntmps21 lE_ ?_
 refine AU0 ?_
 refine JLs (e_box (cs := [iv fr, iv to, .slice vA vn vc]) rfl rfl fun b3 => ?_)
 refine AU1 ?_
 refine JLs (e_call rfl rfl (nRealm_ok hn (List.mem_cons_of_mem _ (wE_mem (b := b) hH))) ?_)
 rintro v l' ⟨rfl, rfl⟩
 rw [show (decide (0 ≤ to) && decide (to - 0 < (w.kd.length : Int))) = true by rw [Bool.and_eq_true]; exact ⟨decide_eq_true (by omega), decide_eq_true (by omega)⟩, show to - 0 = (i : Int) by omega]
 refine AU1 ?_
 refine JLs (e_call rfl rfl (Tr.perm (l' := H ++ ((b3, isC 64 [iv fr, iv to, .slice vA vn vc]) :: r)) (perm_mid [_] H r) (handles_ok hk hh hlen hs hd hi hB (hv.mono fun e he => by simp [he]))) ?_)
 rintro v l' ⟨rfl, H', hB', rfl⟩
 refine JL.perm (l' := (b3, isC 64 [iv fr, iv to, .slice vA vn vc]) :: (H' ++ r)) (perm_mid [_] H' r).symm ?_
 have hB1 := hB'
 obtain ⟨L', hw', hH'⟩ := hB1
 refine AU1 ?_
 refine JLs (e_call rfl rfl (nClient_ok hn (List.mem_cons_of_mem _ (wE_mem (b := b) hH'))) ?_)
 rintro v l' ⟨rfl, rfl⟩
 dsimp only
 rw [show (decide (100 ≤ to) && decide (to - 100 < (w.cl.length : Int))) = false by rw [Bool.and_eq_false_iff]; exact .inl (decide_eq_false (by omega))]
 refine AU1 ?_
 refine JLs (e_call rfl rfl (nServer_ok hn (List.mem_cons_of_mem _ (wE_mem (b := b) hH'))) ?_)
 rintro v l' ⟨rfl, rfl⟩
 dsimp only
 rw [show (decide (200 ≤ to) && decide (to - 200 < (w.ac.length : Int))) = false by rw [Bool.and_eq_false_iff]; exact .inl (decide_eq_false (by omega))]
 refine AU0 ?_
 exact RN.sub (List.sublist_cons_self _ _) (RN.none rfl ⟨rfl, H', hB', rfl⟩)
set_option maxHeartbeats 4000000 in
theorem delivers_C {w w' : WS} {c : Nat} {x x' : ClS} {m : MS} {res : Option (S × MS)} {fr to : Int} (hto : to = 100 + (c : Int)) (hx : w.cl[c]? = some x) (ht : takeM x m (nowM w.ck to) = some (x', res))
  (hres : match res with | some y => sendM { w with cl := w.cl.set c x' } to y.1 y.2 = some w' | none => idxR w.T.rs [] < 0 ∧ w' = { w with cl := w.cl.set c x' }) {b : Nat} {H r : List Ent} {W : World} (hB : WorldB W b w H) {vA : Option Addr} {vn vc : Nat} (hv : BV W r (.slice vA vn vc) m.mg.byts) :
  Tr Pg 21 #[ptr b, .agg #[iv fr, iv to, .slice vA vn vc]] W (H ++ r) fun v l' => v = .tuple #[] ∧ ∃ H', WorldB W b w' H' ∧ l' = H' ++ r := by
 obtain ⟨L, hw, rfl⟩ := hB
 have hkn := hw.kn
 have hcn := hw.cn
 have hci : c < w.cl.length := (List.getElem?_eq_some_iff.1 hx).1
 have hn : -1000000000 ≤ to ∧ to ≤ 1000000000 := by omega
 obtain ⟨g, cap, he, -, -, hcl⟩ := De.own_some hw.c (by omega)
 injection he with he1 _ he3
 obtain ⟨cb, CA, H1, CB, hcb, hC, hCH, hset⟩ := hw.ch.get hx
 refine Tr.perm (l' := wE b L w :: (L.mb, isMi w.ck) :: (g, isR 52 (cap * 1) (L.cid.map ptr)) :: (H1 ++ spE L.sb L.sm :: (L.TH ++ (L.rl ++ (L.kl ++ (L.KH ++ (CA ++ (CB ++ (L.sl ++ (L.al ++ (L.AH ++ (L.NH ++ (L.acl ++ (L.AccH ++ (L.isl ++ r))))))))))))))) (by unfold WL.H mE; rw [hcl, hCH]; exact prm_) ?_
 refine Tr.of_code (args := [_, _]) Tryz.func21 rfl Tryz.ntmps21 lE_ ?_
 refine AU0 ?_
 refine JLs (e_box (cs := [iv fr, iv to, .slice vA vn vc]) rfl rfl fun b3 => ?_)
 refine AU1 ?_
 refine JLs (e_call rfl rfl (nRealm_ok hn (List.mem_cons_of_mem _ (List.mem_cons_self ..))) ?_)
 rintro v l' ⟨rfl, rfl⟩
 rw [show (decide (0 ≤ to) && decide (to - 0 < (w.kd.length : Int))) = false by rw [Bool.and_eq_false_iff]; exact .inr (decide_eq_false (by omega))]
 refine AU1 ?_
 refine JLs (e_call rfl rfl (nClient_ok hn (List.mem_cons_of_mem _ (List.mem_cons_self ..))) ?_)
 rintro v l' ⟨rfl, rfl⟩
 rw [show (decide (100 ≤ to) && decide (to - 100 < (w.cl.length : Int))) = true by rw [Bool.and_eq_true]; exact ⟨decide_eq_true (by omega), decide_eq_true (by omega)⟩, show to - 100 = (c : Int) by omega]
 refine AU0 ?_
 refine JC.drawn 22 rfl mixed ?_
 refine JDp 0 rfl y_mv ?_
 refine JDp 1 rfl (y_nilCheck rfl) ?_
 refine JDp 2 rfl (y_fieldAddr rfl) ?_
 refine JDr 3 1 rfl rfl (r_load1 (v := .slice (some ⟨g, 0, none⟩) w.cl.length cap) rfl (by rw [← he1, ← he3]; rfl)) ?_
 refine JDp 4 rfl y_mv ?_
 refine JDp 5 rfl (y_index (j := c) rfl rfl hci) ?_
 refine JDr 6 3 rfl rfl (r_loadR1 rfl (by rw [List.getElem?_map, Nat.zero_add, Nat.mul_one, hcb]; rfl)) ?_
 refine JDp 7 rfl (y_fieldAddr rfl) ?_
 refine JDr 8 0 rfl rfl (r_load1 rfl rfl) ?_
 refine JDp 9 rfl y_mv ?_
 refine JDp 10 rfl (y_nilCheck rfl) ?_
 refine JDp 11 rfl (y_fieldAddr rfl) ?_
 refine JDr 12 1 rfl rfl (r_load1 rfl rfl) ?_
 refine JDp 13 rfl (y_fieldAddr rfl) ?_
 refine JDr 14 0 rfl rfl (r_load1 rfl rfl) ?_
 refine JDr 15 2 rfl rfl (r_lookupI zero_int rfl rfl) ?_
 refine JDe 16 rfl (e_call rfl rfl (Tr.perm (l' := H1 ++ ((b3, isC 64 [iv fr, iv to, .slice vA vn vc]) :: wE b L w :: (L.mb, isMi w.ck) :: (g, isR 52 (cap * 1) (L.cid.map ptr)) :: spE L.sb L.sm :: (L.TH ++ (L.rl ++ (L.kl ++ (L.KH ++ (CA ++ (CB ++ (L.sl ++ (L.al ++ (L.AH ++ (L.NH ++ (L.acl ++ (L.AccH ++ (L.isl ++ r))))))))))))))) (perm_mid [_, _, _, _] H1 _) (Take_ok ht hC (hv.mono fun e he => by simp [he]))) ?_)
 rintro v l' ⟨z, v1, le, H1', rfl, hC', rfl, hz⟩
 refine ⟨tok_, ?_⟩
 refine JDp 17 rfl y_mv ?_
 refine JDp 18 rfl (y_extract rfl rfl) ?_
 refine JDp 19 rfl (y_extract rfl rfl) ?_
 refine JDp 20 rfl y_as ?_
 refine JDp 21 rfl y_as ?_
 refine JDd ?_
 refine RN.perm (l' := (b3, isC 64 [iv fr, iv to, .slice vA vn vc]) :: wE b L w :: (L.NH ++ ((L.mb, isMi w.ck) :: (g, isR 52 (cap * 1) (L.cid.map ptr)) :: spE L.sb L.sm :: (L.TH ++ (L.rl ++ (L.kl ++ (L.KH ++ (CA ++ (H1' ++ (CB ++ (L.sl ++ (L.al ++ (L.AH ++ (L.acl ++ (L.AccH ++ (L.isl ++ (le ++ r))))))))))))))))) prm_ ?_
 refine AU1 ?_
 cases res with
 | none =>
  obtain ⟨rfl, rfl⟩ := hz
  obtain ⟨hid, rfl⟩ := hres
  refine JLs (e_call rfl rfl (sends_none (z := []) hid hw (v := nl) (List.mem_cons_of_mem _ (List.mem_cons_self ..)) (fun e he => by simp [he])) ?_)
  rintro v l' ⟨rfl, rfl⟩
  refine AU1 ?_
  refine JLs (e_call rfl rfl (nServer_ok hn (List.mem_cons_of_mem _ (List.mem_cons_self ..))) ?_)
  rintro v l' ⟨rfl, rfl⟩
  try dsimp only
  rw [show (decide (200 ≤ to) && decide (to - 200 < (w.ac.length : Int))) = false by rw [Bool.and_eq_false_iff]; exact .inl (decide_eq_false (by omega))]
  refine AU0 ?_
  refine RN.perm (l' := (b3, isC 64 [iv fr, iv to, .slice vA vn vc]) :: (le ++ ((wE b L w :: (L.mb, isMi w.ck) :: spE L.sb L.sm :: (L.TH ++ (L.rl ++ (L.kl ++ (L.KH ++ (L.cl ++ ((CA ++ (H1' ++ CB)) ++ (L.sl ++ (L.al ++ (L.AH ++ (L.NH ++ (L.acl ++ (L.AccH ++ L.isl))))))))))))) ++ r))) (by rw [hcl]; exact prm_) ?_
  refine RN.sub (((List.sublist_append_right le _)).cons _) ?_
  refine RN.none rfl ⟨rfl, _, ⟨_, (WOk.setCl hw (hset x' H1' hC')), ?_⟩, rfl⟩
  unfold mE wE WL.H WL.c
  dsimp only
  rw [List.length_set]
 | some y =>
  obtain ⟨rfl, ho⟩ := hz
  obtain ⟨xA, xc, rfl, hxs⟩ := BV.own (W := W) ho
  have hs := sends_w hres (WOk.setCl hw (hset x' H1' hC')) (b := b) (v := .slice xA y.2.mg.byts.length xc) (r := (b3, isC 64 [iv fr, iv to, .slice vA vn vc]) :: (L.mb, isMi w.ck) :: (g, isR 52 (cap * 1) (L.cid.map ptr)) :: spE L.sb L.sm :: (L.TH ++ (L.rl ++ (L.kl ++ (L.KH ++ (CA ++ (H1' ++ (CB ++ (L.sl ++ (L.al ++ (L.AH ++ (L.acl ++ (L.AccH ++ (L.isl ++ (le ++ r))))))))))))))) (BV.mono ⟨xA, xc, rfl, hxs⟩ fun e he => by simp [he]) (fun e he => by simp [he])
  rw [wE_setCl] at hs
  refine JLs (e_call rfl rfl (Tr.perm (l' := wE b L w :: (L.NH ++ ((b3, isC 64 [iv fr, iv to, .slice vA vn vc]) :: (L.mb, isMi w.ck) :: (g, isR 52 (cap * 1) (L.cid.map ptr)) :: spE L.sb L.sm :: (L.TH ++ (L.rl ++ (L.kl ++ (L.KH ++ (CA ++ (H1' ++ (CB ++ (L.sl ++ (L.al ++ (L.AH ++ (L.acl ++ (L.AccH ++ (L.isl ++ (le ++ r))))))))))))))))) prm_ hs) ?_)
  rintro v l' ⟨rfl, NH', ss', hw', rfl⟩
  obtain ⟨-, -, -, -, rfl⟩ := sendM_spec hres
  refine JL.perm (l' := (b3, isC 64 [iv fr, iv to, .slice vA vn vc]) :: wE b L w :: (NH' ++ ((L.mb, isMi w.ck) :: (g, isR 52 (cap * 1) (L.cid.map ptr)) :: spE L.sb L.sm :: (L.TH ++ (L.rl ++ (L.kl ++ (L.KH ++ (CA ++ (H1' ++ (CB ++ (L.sl ++ (L.al ++ (L.AH ++ (L.acl ++ (L.AccH ++ (L.isl ++ (le ++ r))))))))))))))))) prm_ ?_
  refine AU1 ?_
  refine JLs (e_call rfl rfl (nServer_ok hn (List.mem_cons_of_mem _ (List.mem_cons_self ..))) ?_)
  rintro v l' ⟨rfl, rfl⟩
  try dsimp only
  rw [show (decide (200 ≤ to) && decide (to - 200 < (w.ac.length : Int))) = false by rw [Bool.and_eq_false_iff]; exact .inl (decide_eq_false (by omega))]
  refine AU0 ?_
  refine RN.perm (l' := (b3, isC 64 [iv fr, iv to, .slice vA vn vc]) :: (le ++ ((wE b L w :: (L.mb, isMi w.ck) :: spE L.sb L.sm :: (L.TH ++ (L.rl ++ (L.kl ++ (L.KH ++ (L.cl ++ ((CA ++ (H1' ++ CB)) ++ (L.sl ++ (L.al ++ (L.AH ++ (NH' ++ (L.acl ++ (L.AccH ++ L.isl))))))))))))) ++ r))) (by rw [hcl]; exact prm_) ?_
  refine RN.sub (((List.sublist_append_right le _)).cons _) ?_
  refine RN.none rfl ⟨rfl, _, ⟨_, hw', ?_⟩, rfl⟩
  unfold mE wE WL.H WL.c
  dsimp only
  rw [List.length_set]
end Go.Proofs.YtbalcgjphkdecaaGreatDoor.To
namespace Go.Proofs.YtbalcgjphkdecaaGreatDoor.To
open Go.RowKit Go.Lg
set_option maxRecDepth 100000
theorem perm2 (x : Ent) (a b r : List Ent) : (a ++ (b ++ (x :: r))).Perm (x :: (a ++ (b ++ r))) := by
 have := List.perm_middle (a := x) (l₁ := a ++ b) (l₂ := r)
 rwa [List.append_assoc, List.append_assoc] at this
theorem acc39_len (x : AccS × Value) : (acc39 x).length = 39 := rfl
attribute [local irreducible] JC JL JD RN RT Eff Yld YldIf Tr partsL okR splitL wordB joinD fit betweenS laidS viaS De.wrapB De.num De.clampI K Se.sealB Pa.byts Au.byts RP.byts Mg.byts Se.inc tillM Sp.kst
set_option maxHeartbeats 4000000 in
theorem delivers_N {w : WS} {c : Nat} {x x' : AcS} {m : MS} {fr to : Int} (hto : to = 200 + (c : Int)) (hx : w.ac[c]? = some x) (ht : acceptM w.T x m (nowM w.ck to) = some (x', none)) {b : Nat} {H r : List Ent} {W : World} (hB : WorldB W b w H) {vA : Option Addr} {vn vc : Nat} (hv : BV W r (.slice vA vn vc) m.mg.byts) :
  Tr Pg 21 #[ptr b, .agg #[iv fr, iv to, .slice vA vn vc]] W (H ++ r) fun v l' => v = .tuple #[] ∧ ∃ H', WorldB W b { w with ac := w.ac.set c x' } H' ∧ l' = H' ++ r := by
 obtain ⟨L, hw, rfl⟩ := hB
 have hkn := hw.kn
 have hcn := hw.cn
 have han := hw.an
 have hci : c < w.ac.length := (List.getElem?_eq_some_iff.1 hx).1
 have hn : -1000000000 ≤ to ∧ to ≤ 1000000000 := by omega
 obtain ⟨g, cap, he, -, -, hcl⟩ := De.own_some hw.a (by omega)
 injection he with he1 _ he3
 obtain ⟨cb, CA, H1, CB, hcb, hC, hCH, hset⟩ := hw.ah.get hx
 refine Tr.perm (l' := wE b L w :: (L.mb, isMi w.ck) :: (g, isR 87 (cap * 1) (L.aid.map ptr)) :: (H1 ++ spE L.sb L.sm :: (L.TH ++ (L.rl ++ (L.kl ++ (L.KH ++ (L.cl ++ (L.CH ++ (L.sl ++ (CA ++ (CB ++ (L.NH ++ (L.acl ++ (L.AccH ++ (L.isl ++ r))))))))))))))) (by unfold WL.H mE; rw [hcl, hCH]; exact prm_) ?_
 refine Tr.of_code (args := [_, _]) Tryz.func21 rfl Tryz.ntmps21 lE_ ?_
 refine AU0 ?_
 refine JLs (e_box (cs := [iv fr, iv to, .slice vA vn vc]) rfl rfl fun b3 => ?_)
 refine AU1 ?_
 refine JLs (e_call rfl rfl (nRealm_ok hn (List.mem_cons_of_mem _ (List.mem_cons_self ..))) ?_)
 rintro v l' ⟨rfl, rfl⟩
 rw [show (decide (0 ≤ to) && decide (to - 0 < (w.kd.length : Int))) = false by rw [Bool.and_eq_false_iff]; exact .inr (decide_eq_false (by omega))]
 refine AU1 ?_
 refine JLs (e_call rfl rfl (nClient_ok hn (List.mem_cons_of_mem _ (List.mem_cons_self ..))) ?_)
 rintro v l' ⟨rfl, rfl⟩
 rw [show (decide (100 ≤ to) && decide (to - 100 < (w.cl.length : Int))) = false by rw [Bool.and_eq_false_iff]; exact .inr (decide_eq_false (by omega))]
 refine AU1 ?_
 refine JLs (e_call rfl rfl (nServer_ok hn (List.mem_cons_of_mem _ (List.mem_cons_self ..))) ?_)
 rintro v l' ⟨rfl, rfl⟩
 rw [show (decide (200 ≤ to) && decide (to - 200 < (w.ac.length : Int))) = true by rw [Bool.and_eq_true]; exact ⟨decide_eq_true (by omega), decide_eq_true (by omega)⟩, show to - 200 = (c : Int) by omega]
 unfold wE
 refine AU0 ?_
 refine JC.cut (fun f l' => ∃ bc H1', FrOk f [(0, ptr b), (3, ptr b3), (12, ptr bc), (13, iv 8)] ∧ AcB W w.T cb x' H1' ∧ l' = (bc, isC 57 accZ) :: (H1' ++ ((b3, isC 64 [iv fr, iv to, .slice vA vn vc]) :: (b, isC 81 (L.c w)) :: (L.mb, isMi w.ck) :: (g, isR 87 (cap * 1) (L.aid.map ptr)) :: spE L.sb L.sm :: (L.TH ++ (L.rl ++ (L.kl ++ (L.KH ++ (L.cl ++ (L.CH ++ (L.sl ++ (CA ++ (CB ++ (L.NH ++ (L.acl ++ (L.AccH ++ (L.isl ++ r)))))))))))))))) ?_ fun K' hT2 => ?_
 rotate_left
 refine JC.drawn 23 rfl mixed ?_
 refine JDp 0 rfl y_mv ?_
 refine JDp 1 rfl (y_nilCheck rfl) ?_
 refine JDp 2 rfl (y_fieldAddr rfl) ?_
 refine JDr 3 1 rfl rfl (r_load1 (v := .slice (some ⟨g, 0, none⟩) w.ac.length cap) rfl (by rw [← he1, ← he3]; rfl)) ?_
 refine JDp 4 rfl y_mv ?_
 refine JDp 5 rfl (y_index (j := c) rfl rfl hci) ?_
 refine JDr 6 3 rfl rfl (r_loadR1 rfl (by rw [List.getElem?_map, Nat.zero_add, Nat.mul_one, hcb]; rfl)) ?_
 refine JDp 7 rfl (y_fieldAddr rfl) ?_
 refine JDr 8 0 rfl rfl (r_load1 rfl rfl) ?_
 refine JDp 9 rfl y_mv ?_
 refine JDp 10 rfl (y_nilCheck rfl) ?_
 refine JDp 11 rfl (y_fieldAddr rfl) ?_
 refine JDr 12 1 rfl rfl (r_load1 rfl rfl) ?_
 refine JDp 13 rfl (y_fieldAddr rfl) ?_
 refine JDr 14 0 rfl rfl (r_load1 rfl rfl) ?_
 refine JDr 15 2 rfl rfl (r_lookupI zero_int rfl rfl) ?_
 refine JD.eff2 16 20 (by kernel_rfl) rfl rfl rfl rfl (e_call rfl rfl (Tr.perm (l' := H1 ++ ((b3, isC 64 [iv fr, iv to, .slice vA vn vc]) :: (b, isC 81 (L.c w)) :: (L.mb, isMi w.ck) :: (g, isR 87 (cap * 1) (L.aid.map ptr)) :: spE L.sb L.sm :: (L.TH ++ (L.rl ++ (L.kl ++ (L.KH ++ (L.cl ++ (L.CH ++ (L.sl ++ (CA ++ (CB ++ (L.NH ++ (L.acl ++ (L.AccH ++ (L.isl ++ r))))))))))))))) (perm_mid [_, _, _, _] H1 _) (TakeA_ok ht hC (hv.mono fun e he => by simp [he]))) ?_) (e_alloc fun bc => ⟨tok_, ?_⟩)
 ·rintro v l' ⟨H1', hC', rfl, rfl⟩
  refine ⟨tok_, ?_⟩
  refine JDp 17 rfl y_mv ?_
  refine JDp 18 rfl (y_extract rfl rfl) ?_
  refine JDp 19 rfl (y_extract rfl rfl) ?_
  refine JDe 20 rfl (e_alloc fun bc => ⟨tok_, ?_⟩)
  refine JDe 21 rfl (e_store 0 rfl rfl rfl (vs := accZ) rfl rfl rfl lE_ ⟨tok_, ?_⟩)
  refine JDp 22 rfl y_as ?_
  refine JDd ?_
  refine RN.cast (l' := (bc, isC 57 accZ) :: (H1' ++ ((b3, isC 64 [iv fr, iv to, .slice vA vn vc]) :: (b, isC 81 (L.c w)) :: (L.mb, isMi w.ck) :: (g, isR 87 (cap * 1) (L.aid.map ptr)) :: spE L.sb L.sm :: (L.TH ++ (L.rl ++ (L.kl ++ (L.KH ++ (L.cl ++ (L.CH ++ (L.sl ++ (CA ++ (CB ++ (L.NH ++ (L.acl ++ (L.AccH ++ (L.isl ++ r)))))))))))))))) rfl ?_
  exact hT2 _ _ ⟨bc, H1', ⟨rfl, rfl, rfl, rfl, trivial⟩, hC', rfl⟩
 ·refine JDe 16 rfl (e_call rfl rfl (Tr.perm (l' := H1 ++ (_ :: (b3, isC 64 [iv fr, iv to, .slice vA vn vc]) :: (b, isC 81 (L.c w)) :: (L.mb, isMi w.ck) :: (g, isR 87 (cap * 1) (L.aid.map ptr)) :: spE L.sb L.sm :: (L.TH ++ (L.rl ++ (L.kl ++ (L.KH ++ (L.cl ++ (L.CH ++ (L.sl ++ (CA ++ (CB ++ (L.NH ++ (L.acl ++ (L.AccH ++ (L.isl ++ r))))))))))))))) (perm_mid [_, _, _, _, _] H1 _) (TakeA_ok ht hC (hv.mono fun e he => by simp [he]))) ?_)
  rintro v l' ⟨H1', hC', rfl, rfl⟩
  refine ⟨tok_, ?_⟩
  refine JD.perm (perm_mid [_] H1' _).symm ?_
  refine JDp 17 rfl y_mv ?_
  refine JDp 18 rfl (y_extract rfl rfl) ?_
  refine JDp 19 rfl (y_extract rfl rfl) ?_
  refine JDe 21 rfl (e_store 0 rfl rfl rfl (vs := accZ) rfl rfl rfl lE_ ⟨tok_, ?_⟩)
  refine JDp 22 rfl y_as ?_
  refine JDd ?_
  refine RN.cast (l' := (bc, isC 57 accZ) :: (H1' ++ ((b3, isC 64 [iv fr, iv to, .slice vA vn vc]) :: (b, isC 81 (L.c w)) :: (L.mb, isMi w.ck) :: (g, isR 87 (cap * 1) (L.aid.map ptr)) :: spE L.sb L.sm :: (L.TH ++ (L.rl ++ (L.kl ++ (L.KH ++ (L.cl ++ (L.CH ++ (L.sl ++ (CA ++ (CB ++ (L.NH ++ (L.acl ++ (L.AccH ++ (L.isl ++ r)))))))))))))))) rfl ?_
  exact hT2 _ _ ⟨bc, H1', ⟨rfl, rfl, rfl, rfl, trivial⟩, hC', rfl⟩
 rintro f l' ⟨bc, H1', hf, hC', rfl⟩
 refine RN.frame _ hf fun f' => ?_
 repeat (first | refine JLp (y_eql (a := 8) (b := 0) rfl rfl (decide_eq_false (by decide))) ?_ | refine AS0 ?_)
 refine RN.perm (l' := _ :: (b3, isC 64 [iv fr, iv to, .slice vA vn vc]) :: (((b, isC 81 (L.c w)) :: (L.mb, isMi w.ck) :: spE L.sb L.sm :: (L.TH ++ (L.rl ++ (L.kl ++ (L.KH ++ (L.cl ++ (L.CH ++ (L.sl ++ (L.al ++ ((CA ++ (H1' ++ CB)) ++ (L.NH ++ (L.acl ++ (L.AccH ++ L.isl))))))))))))) ++ r)) (by rw [hcl]; refine List.Perm.cons _ ?_; exact prm_) ?_
 refine RN.sub (List.sublist_append_right [_, _] _) ?_
 refine RN.none rfl ⟨rfl, (b, isC 81 (L.c w)) :: (L.mb, isMi w.ck) :: spE L.sb L.sm :: (L.TH ++ (L.rl ++ (L.kl ++ (L.KH ++ (L.cl ++ (L.CH ++ (L.sl ++ (L.al ++ ((CA ++ (H1' ++ CB)) ++ (L.NH ++ (L.acl ++ (L.AccH ++ L.isl)))))))))))), ⟨{ L with AH := CA ++ (H1' ++ CB) }, { hw with a := (by dsimp only; rw [List.length_set]; exact hw.a), ah := hset _ _ hC', an := (by dsimp only; rw [List.length_set]; exact hw.an) }, ?_⟩, rfl⟩
 unfold mE wE WL.H WL.c
 dsimp only
 rw [List.length_set]
set_option maxHeartbeats 4000000 in
theorem delivers_S {w : WS} {c : Nat} {x x' : AcS} {a1 : AccS} {m : MS} {fr to : Int} (hto : to = 200 + (c : Int)) (hx : w.ac[c]? = some x) (ht : acceptM w.T x m (nowM w.ck to) = some (x', some a1)) (ha : w.acc.length ≤ 1000000) {b : Nat} {H r : List Ent} {W : World} (hB : WorldB W b w H) {vA : Option Addr} {vn vc : Nat} (hv : BV W r (.slice vA vn vc) m.mg.byts) :
  Tr Pg 21 #[ptr b, .agg #[iv fr, iv to, .slice vA vn vc]] W (H ++ r) fun v l' => v = .tuple #[] ∧ ∃ H', WorldB W b { w with ac := w.ac.set c x', acc := w.acc ++ [a1] } H' ∧ l' = H' ++ r := by
 obtain ⟨L, hw, rfl⟩ := hB
 have hkn := hw.kn
 have hcn := hw.cn
 have han := hw.an
 have hci : c < w.ac.length := (List.getElem?_eq_some_iff.1 hx).1
 have hn : -1000000000 ≤ to ∧ to ≤ 1000000000 := by omega
 obtain ⟨g, cap, he, -, -, hcl⟩ := De.own_some hw.a (by omega)
 injection he with he1 _ he3
 obtain ⟨cb, CA, H1, CB, hcb, hC, hCH, hset⟩ := hw.ah.get hx
 refine Tr.perm (l' := wE b L w :: (L.mb, isMi w.ck) :: (g, isR 87 (cap * 1) (L.aid.map ptr)) :: (H1 ++ spE L.sb L.sm :: (L.TH ++ (L.rl ++ (L.kl ++ (L.KH ++ (L.cl ++ (L.CH ++ (L.sl ++ (CA ++ (CB ++ (L.NH ++ (L.acl ++ (L.AccH ++ (L.isl ++ r))))))))))))))) (by unfold WL.H mE; rw [hcl, hCH]; exact prm_) ?_
 refine Tr.of_code (args := [_, _]) Tryz.func21 rfl Tryz.ntmps21 lE_ ?_
 refine AU0 ?_
 refine JLs (e_box (cs := [iv fr, iv to, .slice vA vn vc]) rfl rfl fun b3 => ?_)
 refine AU1 ?_
 refine JLs (e_call rfl rfl (nRealm_ok hn (List.mem_cons_of_mem _ (List.mem_cons_self ..))) ?_)
 rintro v l' ⟨rfl, rfl⟩
 rw [show (decide (0 ≤ to) && decide (to - 0 < (w.kd.length : Int))) = false by rw [Bool.and_eq_false_iff]; exact .inr (decide_eq_false (by omega))]
 refine AU1 ?_
 refine JLs (e_call rfl rfl (nClient_ok hn (List.mem_cons_of_mem _ (List.mem_cons_self ..))) ?_)
 rintro v l' ⟨rfl, rfl⟩
 rw [show (decide (100 ≤ to) && decide (to - 100 < (w.cl.length : Int))) = false by rw [Bool.and_eq_false_iff]; exact .inr (decide_eq_false (by omega))]
 refine AU1 ?_
 refine JLs (e_call rfl rfl (nServer_ok hn (List.mem_cons_of_mem _ (List.mem_cons_self ..))) ?_)
 rintro v l' ⟨rfl, rfl⟩
 rw [show (decide (200 ≤ to) && decide (to - 200 < (w.ac.length : Int))) = true by rw [Bool.and_eq_true]; exact ⟨decide_eq_true (by omega), decide_eq_true (by omega)⟩, show to - 200 = (c : Int) by omega]
 unfold wE
 refine AU0 ?_
 refine JC.cut (fun f l' => ∃ bc H1' oA oc le, FrOk f [(0, ptr b), (3, ptr b3), (12, ptr bc), (13, iv 0)] ∧ AcB W w.T cb x' H1' ∧ Lg.Own 9 1 (.slice oA a1.tr.length oc) a1.tr.length (a1.tr.map sv) le ∧ l' = (bc, isC 57 (accC a1 (.slice oA a1.tr.length oc))) :: (le ++ (H1' ++ ((b3, isC 64 [iv fr, iv to, .slice vA vn vc]) :: (b, isC 81 (L.c w)) :: (L.mb, isMi w.ck) :: (g, isR 87 (cap * 1) (L.aid.map ptr)) :: spE L.sb L.sm :: (L.TH ++ (L.rl ++ (L.kl ++ (L.KH ++ (L.cl ++ (L.CH ++ (L.sl ++ (CA ++ (CB ++ (L.NH ++ (L.acl ++ (L.AccH ++ (L.isl ++ r))))))))))))))))) ?_ fun K' hT2 => ?_
 rotate_left
 refine JC.drawn 23 rfl mixed ?_
 refine JDp 0 rfl y_mv ?_
 refine JDp 1 rfl (y_nilCheck rfl) ?_
 refine JDp 2 rfl (y_fieldAddr rfl) ?_
 refine JDr 3 1 rfl rfl (r_load1 (v := .slice (some ⟨g, 0, none⟩) w.ac.length cap) rfl (by rw [← he1, ← he3]; rfl)) ?_
 refine JDp 4 rfl y_mv ?_
 refine JDp 5 rfl (y_index (j := c) rfl rfl hci) ?_
 refine JDr 6 3 rfl rfl (r_loadR1 rfl (by rw [List.getElem?_map, Nat.zero_add, Nat.mul_one, hcb]; rfl)) ?_
 refine JDp 7 rfl (y_fieldAddr rfl) ?_
 refine JDr 8 0 rfl rfl (r_load1 rfl rfl) ?_
 refine JDp 9 rfl y_mv ?_
 refine JDp 10 rfl (y_nilCheck rfl) ?_
 refine JDp 11 rfl (y_fieldAddr rfl) ?_
 refine JDr 12 1 rfl rfl (r_load1 rfl rfl) ?_
 refine JDp 13 rfl (y_fieldAddr rfl) ?_
 refine JDr 14 0 rfl rfl (r_load1 rfl rfl) ?_
 refine JDr 15 2 rfl rfl (r_lookupI zero_int rfl rfl) ?_
 refine JD.eff2 16 20 (by kernel_rfl) rfl rfl rfl rfl (e_call rfl rfl (Tr.perm (l' := H1 ++ ((b3, isC 64 [iv fr, iv to, .slice vA vn vc]) :: (b, isC 81 (L.c w)) :: (L.mb, isMi w.ck) :: (g, isR 87 (cap * 1) (L.aid.map ptr)) :: spE L.sb L.sm :: (L.TH ++ (L.rl ++ (L.kl ++ (L.KH ++ (L.cl ++ (L.CH ++ (L.sl ++ (CA ++ (CB ++ (L.NH ++ (L.acl ++ (L.AccH ++ (L.isl ++ r))))))))))))))) (perm_mid [_, _, _, _] H1 _) (TakeA_ok ht hC (hv.mono fun e he => by simp [he]))) ?_) (e_alloc fun bc => ⟨tok_, ?_⟩)
 ·rintro v l' ⟨H1', hC', tv, le, rfl, ho, rfl⟩
  obtain ⟨oA, oc, rfl, hso⟩ := SlV.own (W := W) ho
  refine ⟨tok_, ?_⟩
  refine JDp 17 rfl y_mv ?_
  refine JDp 18 rfl (y_extract rfl rfl) ?_
  refine JDp 19 rfl (y_extract rfl rfl) ?_
  refine JDe 20 rfl (e_alloc fun bc => ⟨tok_, ?_⟩)
  refine JDe 21 rfl (e_store 0 rfl rfl rfl (vs := accC a1 (.slice oA a1.tr.length oc)) rfl rfl rfl lE_ ⟨tok_, ?_⟩)
  refine JDp 22 rfl y_as ?_
  refine JDd ?_
  refine RN.cast (l' := (bc, isC 57 (accC a1 (.slice oA a1.tr.length oc))) :: (le ++ (H1' ++ ((b3, isC 64 [iv fr, iv to, .slice vA vn vc]) :: (b, isC 81 (L.c w)) :: (L.mb, isMi w.ck) :: (g, isR 87 (cap * 1) (L.aid.map ptr)) :: spE L.sb L.sm :: (L.TH ++ (L.rl ++ (L.kl ++ (L.KH ++ (L.cl ++ (L.CH ++ (L.sl ++ (CA ++ (CB ++ (L.NH ++ (L.acl ++ (L.AccH ++ (L.isl ++ r))))))))))))))))) (by rfl) ?_
  exact hT2 _ _ ⟨bc, H1', oA, oc, le, ⟨rfl, rfl, rfl, rfl, trivial⟩, hC', ho, rfl⟩
 ·refine JDe 16 rfl (e_call rfl rfl (Tr.perm (l' := H1 ++ (_ :: (b3, isC 64 [iv fr, iv to, .slice vA vn vc]) :: (b, isC 81 (L.c w)) :: (L.mb, isMi w.ck) :: (g, isR 87 (cap * 1) (L.aid.map ptr)) :: spE L.sb L.sm :: (L.TH ++ (L.rl ++ (L.kl ++ (L.KH ++ (L.cl ++ (L.CH ++ (L.sl ++ (CA ++ (CB ++ (L.NH ++ (L.acl ++ (L.AccH ++ (L.isl ++ r))))))))))))))) (perm_mid [_, _, _, _, _] H1 _) (TakeA_ok ht hC (hv.mono fun e he => by simp [he]))) ?_)
  rintro v l' ⟨H1', hC', tv, le, rfl, ho, rfl⟩
  obtain ⟨oA, oc, rfl, hso⟩ := SlV.own (W := W) ho
  refine ⟨tok_, ?_⟩
  refine JD.perm (perm2 _ _ _ _) ?_
  refine JDp 17 rfl y_mv ?_
  refine JDp 18 rfl (y_extract rfl rfl) ?_
  refine JDp 19 rfl (y_extract rfl rfl) ?_
  refine JDe 21 rfl (e_store 0 rfl rfl rfl (vs := accC a1 (.slice oA a1.tr.length oc)) rfl rfl rfl lE_ ⟨tok_, ?_⟩)
  refine JDp 22 rfl y_as ?_
  refine JDd ?_
  refine RN.cast (l' := (bc, isC 57 (accC a1 (.slice oA a1.tr.length oc))) :: (le ++ (H1' ++ ((b3, isC 64 [iv fr, iv to, .slice vA vn vc]) :: (b, isC 81 (L.c w)) :: (L.mb, isMi w.ck) :: (g, isR 87 (cap * 1) (L.aid.map ptr)) :: spE L.sb L.sm :: (L.TH ++ (L.rl ++ (L.kl ++ (L.KH ++ (L.cl ++ (L.CH ++ (L.sl ++ (CA ++ (CB ++ (L.NH ++ (L.acl ++ (L.AccH ++ (L.isl ++ r))))))))))))))))) (by rfl) ?_
  exact hT2 _ _ ⟨bc, H1', oA, oc, le, ⟨rfl, rfl, rfl, rfl, trivial⟩, hC', ho, rfl⟩
 rintro f l' ⟨bc, H1', oA, oc, le, hf, hC', ho, rfl⟩
 refine RN.frame _ hf fun f' => ?_
 refine RN.perm (l' := (bc, isC 57 (accC a1 (.slice oA a1.tr.length oc))) :: (b3, isC 64 [iv fr, iv to, .slice vA vn vc]) :: (b, isC 81 (L.c w)) :: (L.acl ++ ((L.mb, isMi w.ck) :: (g, isR 87 (cap * 1) (L.aid.map ptr)) :: spE L.sb L.sm :: (L.TH ++ (L.rl ++ (L.kl ++ (L.KH ++ (L.cl ++ (L.CH ++ (L.sl ++ (CA ++ (H1' ++ (CB ++ (L.NH ++ (L.AccH ++ (le ++ (L.isl ++ r))))))))))))))))) prm_ ?_
 repeat (first | refine JLp (y_eql (a := 0) (b := 0) rfl rfl (decide_eq_true rfl)) ?_ | refine AS0 ?_)
 refine JC.drawn 11 rfl mixed ?_
 refine JDp 0 rfl y_mv ?_
 refine JDp 1 rfl y_mv ?_
 refine JDp 2 rfl (y_nilCheck rfl) ?_
 refine JDp 3 rfl (y_fieldAddr rfl) ?_
 refine JDr 4 2 rfl rfl (r_load1 rfl rfl) ?_
 refine JDr 5 0 rfl rfl (r_loadA rfl lE_ rfl) ?_
 refine JDe 6 rfl (e_buildSlice (cells := accC a1 (.slice oA a1.tr.length oc)) [.agg (accC a1 (.slice oA a1.tr.length oc)).toArray] rfl lE_ rfl (fun u hu => by cases List.mem_singleton.1 hu; rfl) rfl fun bs => ⟨tok_, ?_⟩)
 refine JDe 7 rfl (e_appendP [_, _, _, _] L.acl rfl rfl hw.ac rfl (news := accC a1 (.slice oA a1.tr.length oc)) rfl (Src.whole (List.mem_cons_self ..)) (fun u hu => List.all_eq_true.1 (show (accC a1 (.slice oA a1.tr.length oc)).all (·.oneCell') = true from rfl) u hu) (by omega) (by unfold maxLen; omega) fun v' lv' ho' _ => ⟨tok_, ?_⟩)
 obtain ⟨g9, cap9, rfl, hc1, hc2, -⟩ := De.own_some (id ho') (Nat.succ_pos _)
 refine JDp 8 rfl (y_nilCheck rfl) ?_
 refine JDp 9 rfl (y_fieldAddr rfl) ?_
 refine JDe 10 rfl (e_store 3 rfl rfl rfl (vs := [.slice (some ⟨g9, 0, none⟩) (w.acc.length + 1) cap9]) rfl rfl rfl lE_ ⟨tok_, ?_⟩)
 refine JDd ?_
 have hla : w.acc.length + 1 = (w.acc ++ [a1]).length := by rw [List.length_append]; rfl
 refine RN.cast (l' := _ :: (bc, isC 57 (accC a1 (.slice oA a1.tr.length oc))) :: (b3, isC 64 [iv fr, iv to, .slice vA vn vc]) :: (b, isC 81 ({ L with acA := some ⟨g9, 0, none⟩, acc := cap9 }.c { w with acc := w.acc ++ [a1] })) :: (lv' ++ ((L.mb, isMi w.ck) :: (g, isR 87 (cap * 1) (L.aid.map ptr)) :: spE L.sb L.sm :: (L.TH ++ (L.rl ++ (L.kl ++ (L.KH ++ (L.cl ++ (L.CH ++ (L.sl ++ (CA ++ (H1' ++ (CB ++ (L.NH ++ (L.AccH ++ (le ++ (L.isl ++ r))))))))))))))))) (by unfold WL.c; dsimp only; rw [← hla]; rfl) ?_
 refine RN.sub (l' := (b, isC 81 ({ L with acA := some ⟨g9, 0, none⟩, acc := cap9 }.c { w with acc := w.acc ++ [a1] })) :: (lv' ++ ((L.mb, isMi w.ck) :: (g, isR 87 (cap * 1) (L.aid.map ptr)) :: spE L.sb L.sm :: (L.TH ++ (L.rl ++ (L.kl ++ (L.KH ++ (L.cl ++ (L.CH ++ (L.sl ++ (CA ++ (H1' ++ (CB ++ (L.NH ++ (L.AccH ++ (le ++ (L.isl ++ r))))))))))))))))) (List.sublist_append_right [_, _, _] _) ?_
 refine RN.perm (l' := ((b, isC 81 ({ L with acA := some ⟨g9, 0, none⟩, acc := cap9 }.c { w with acc := w.acc ++ [a1] })) :: (L.mb, isMi w.ck) :: spE L.sb L.sm :: (L.TH ++ (L.rl ++ (L.kl ++ (L.KH ++ (L.cl ++ (L.CH ++ (L.sl ++ (L.al ++ ((CA ++ (H1' ++ CB)) ++ (L.NH ++ (lv' ++ ((L.AccH ++ le) ++ L.isl))))))))))))) ++ r) (by rw [hcl]; exact prm_) ?_
 obtain ⟨oA', oc', hoe, hso⟩ := SlV.own (W := W) ho
 refine RN.none rfl ⟨rfl, (b, isC 81 ({ L with acA := some ⟨g9, 0, none⟩, acc := cap9 }.c { w with acc := w.acc ++ [a1] })) :: (L.mb, isMi w.ck) :: spE L.sb L.sm :: (L.TH ++ (L.rl ++ (L.kl ++ (L.KH ++ (L.cl ++ (L.CH ++ (L.sl ++ (L.al ++ ((CA ++ (H1' ++ CB)) ++ (L.NH ++ (lv' ++ ((L.AccH ++ le) ++ L.isl)))))))))))), ⟨{ L with AH := CA ++ (H1' ++ CB), acA := some ⟨g9, 0, none⟩, acc := cap9, acl := lv', acs := L.acs ++ [(a1, .slice oA a1.tr.length oc)], AccH := L.AccH ++ le },
  { hw with
   a := (by dsimp only; rw [List.length_set]; exact hw.a)
   ah := hset _ _ hC'
   an := (by dsimp only; rw [List.length_set]; exact hw.an)
   ac := (by dsimp only; rw [← hla, List.flatMap_append, List.flatMap_singleton]; exact ho')
   acs := (by dsimp only; rw [List.map_append, hw.acs]; rfl)
   acv := fun y hy => by
    rcases List.mem_append.1 hy with hy | hy
    ·obtain ⟨A, cc, h1, h2⟩ := hw.acv y hy
     exact ⟨A, cc, h1, h2.mono fun e he => List.mem_append_left _ he⟩
    ·cases List.mem_singleton.1 hy
     exact ⟨oA', oc', hoe, hso.mono fun e he => List.mem_append_right _ he⟩
   acn := (by dsimp only; rw [← hla]; omega) }, ?_⟩, rfl⟩
 unfold mE wE WL.H WL.c
 dsimp only
 rw [List.length_set]
end Go.Proofs.YtbalcgjphkdecaaGreatDoor.To
namespace Go.Proofs.YtbalcgjphkdecaaGreatDoor.To
open Go.RowKit Go.Lg
set_option maxRecDepth 100000
attribute [local irreducible] JC JL JD RN RT Eff Yld YldIf Tr partsL okR splitL wordB joinD fit betweenS laidS viaS De.wrapB De.num De.clampI K Se.sealB Pa.byts Au.byts RP.byts Mg.byts Se.inc tillM Sp.kst
theorem may_cs {k : Int} (hk : k = 1 ∨ k = 2) {b c s : Nat} {n : Int} {L : WL} {w : WS} (hc : c < w.cl.length) (hs : s < w.sv_.length) (hcn : w.cl.length ≤ 3) (hsn : w.sv_.length ≤ 3) {W : World} {l : List Ent} (h : wE b L w ∈ l) : Tr Pg 17 #[ptr b, .agg (stC k (100 + c) n s).toArray] W l fun v l' => v = .bool true ∧ l' = l := by
 obtain ⟨i, hi⟩ := List.mem_iff_getElem?.1 h
 unfold wE at hi
 refine Tr.of_code (args := [_, _]) Tryz.func17 rfl Tryz.ntmps17 lE_ ?_
 refine AU0 ?_
 refine JLs (e_box (cs := stC k (100 + c : Int) n (s : Int)) rfl rfl fun b3 => ?_)
 rcases hk with rfl | rfl
 ·refine AU1 ?_
  refine JLs (e_call rfl rfl (nClient_ok (n := 100 + c) (by omega) (List.mem_cons_of_mem _ h)) ?_)
  rintro v l' ⟨rfl, rfl⟩
  rw [show (decide (100 ≤ 100 + (c : Int)) && decide (100 + (c : Int) - 100 < (w.cl.length : Int))) = true by rw [Bool.and_eq_true]; exact ⟨decide_eq_true (by omega), decide_eq_true (by omega)⟩]
  refine AU0 ?_
  refine JC.drawn 17 rfl mixed ?_
  refine JDp 0 rfl y_mv ?_
  refine JDp 1 rfl y_mv ?_
  refine JDp 2 rfl (y_fieldAddr rfl) ?_
  refine JDr 3 0 rfl rfl (r_load1 rfl rfl) ?_
  refine JDp 4 rfl (y_geq rfl rfl (decide_eq_true (by omega))) ?_
  refine JDp 5 rfl (y_pick_t rfl (by conv => lhs; whnf)) ?_
  refine JDp 6 rfl y_mv ?_
  refine JDp 7 rfl (y_fieldAddr rfl) ?_
  refine JDr 8 0 rfl rfl (r_load1 rfl rfl) ?_
  refine JDp 9 rfl y_mv ?_
  refine JDp 10 rfl (y_nilCheck rfl) ?_
  refine JDp 11 rfl (y_fieldAddr rfl) ?_
  refine JD.read 12 (i + 1) hi rfl (by kernel_rfl) (by kernel_rfl) rfl (r_load1 (v := .slice L.sA w.sv_.length L.sc) rfl rfl) ?_
  refine JDp 13 rfl (y_len rfl) ?_
  refine JDp 14 rfl (y_lss rfl rfl (decide_eq_true (by omega))) ?_
  refine JDp 15 rfl (y_pick_t rfl (by conv => lhs; whnf)) ?_
  refine JDp 16 rfl y_as ?_
  refine JDd ?_
  refine AU0 ?_
  exact JC.sub (List.sublist_cons_self _ _) (JC.ret (RT.one rfl rfl (v := .bool true) rfl ⟨rfl, rfl⟩))
 ·refine AU1 ?_
  refine JLs (e_call rfl rfl (nClient_ok (n := 100 + c) (by omega) (List.mem_cons_of_mem _ h)) ?_)
  rintro v l' ⟨rfl, rfl⟩
  rw [show (decide (100 ≤ 100 + (c : Int)) && decide (100 + (c : Int) - 100 < (w.cl.length : Int))) = true by rw [Bool.and_eq_true]; exact ⟨decide_eq_true (by omega), decide_eq_true (by omega)⟩]
  refine AU0 ?_
  refine JC.drawn 17 rfl mixed ?_
  refine JDp 0 rfl y_mv ?_
  refine JDp 1 rfl y_mv ?_
  refine JDp 2 rfl (y_fieldAddr rfl) ?_
  refine JDr 3 0 rfl rfl (r_load1 rfl rfl) ?_
  refine JDp 4 rfl (y_geq rfl rfl (decide_eq_true (by omega))) ?_
  refine JDp 5 rfl (y_pick_t rfl (by conv => lhs; whnf)) ?_
  refine JDp 6 rfl y_mv ?_
  refine JDp 7 rfl (y_fieldAddr rfl) ?_
  refine JDr 8 0 rfl rfl (r_load1 rfl rfl) ?_
  refine JDp 9 rfl y_mv ?_
  refine JDp 10 rfl (y_nilCheck rfl) ?_
  refine JDp 11 rfl (y_fieldAddr rfl) ?_
  refine JD.read 12 (i + 1) hi rfl (by kernel_rfl) (by kernel_rfl) rfl (r_load1 (v := .slice L.sA w.sv_.length L.sc) rfl rfl) ?_
  refine JDp 13 rfl (y_len rfl) ?_
  refine JDp 14 rfl (y_lss rfl rfl (decide_eq_true (by omega))) ?_
  refine JDp 15 rfl (y_pick_t rfl (by conv => lhs; whnf)) ?_
  refine JDp 16 rfl y_as ?_
  refine JDd ?_
  refine AU0 ?_
  exact JC.sub (List.sublist_cons_self _ _) (JC.ret (RT.one rfl rfl (v := .bool true) rfl ⟨rfl, rfl⟩))
theorem may_tick {b : Nat} {nd n t : Int} {L : WL} {w : WS} (hk : w.kd.length ≤ 6) (hc : w.cl.length ≤ 3) (ha : w.ac.length ≤ 3) (h1 : 100 ≤ nd ∧ nd < 100 + w.cl.length ∨ 200 ≤ nd ∧ nd < 200 + w.ac.length) (hn : 0 ≤ n ∧ n ≤ 1000) {W : World} {l : List Ent} (h : wE b L w ∈ l) : Tr Pg 17 #[ptr b, .agg (stC 6 nd n t).toArray] W l fun v l' => v = .bool true ∧ l' = l := by
 refine Tr.of_code (args := [_, _]) Tryz.func17 rfl Tryz.ntmps17 lE_ ?_
 refine AU0 ?_
 refine JLs (e_box (cs := stC 6 nd n t) rfl rfl fun b3 => ?_)
 refine AU1 ?_
 refine JLs (e_call rfl rfl (isNode_yes hk hc ha h1 (List.mem_cons_of_mem _ h)) ?_)
 rintro v l' ⟨rfl, rfl⟩
 refine AU1 ?_
 exact JC.sub (List.sublist_cons_self _ _) (JC.ret (RT.one rfl rfl (v := .bool true) rfl ⟨rfl, rfl⟩))
theorem may_deliver {b : Nat} {L : WL} {w : WS} {W : World} (hw : WOk W w L) (h0 : 0 < w.net.length) (hm : w.net.length ≤ 32) {r : List Ent} : Tr Pg 17 #[ptr b, .agg (stC 3 0 0 0).toArray] W (wE b L w :: (L.NH ++ r)) fun v l' => v = .bool true ∧ l' = wE b L w :: (L.NH ++ r) := by
 refine Tr.of_code (args := [_, _]) Tryz.func17 rfl Tryz.ntmps17 lE_ ?_
 refine AU0 ?_
 refine JLs (e_box (cs := stC 3 0 0 0) rfl rfl fun b3 => ?_)
 unfold wE
 refine AU1 ?_
 refine JC.drawn 14 rfl mixed ?_
 refine JDp 0 rfl (y_fieldAddr rfl) ?_
 refine JDr 1 0 rfl rfl (r_load1 rfl rfl) ?_
 refine JDp 2 rfl (y_geq rfl rfl (decide_eq_true (by omega))) ?_
 refine JDp 3 rfl y_mv ?_
 refine JDp 4 rfl (y_fieldAddr rfl) ?_
 refine JDr 5 0 rfl rfl (r_load1 rfl rfl) ?_
 refine JDp 6 rfl y_mv ?_
 refine JDp 7 rfl (y_nilCheck rfl) ?_
 refine JDp 8 rfl (y_fieldAddr rfl) ?_
 refine JDr 9 1 rfl rfl (r_load1 rfl rfl) ?_
 refine JDe 10 rfl (e_call rfl rfl (Tr.perm (l' := L.NH ++ ((b3, isC 28 (stC 3 0 0 0)) :: (b, isC 81 (L.c w)) :: r)) (perm_mid [_, _] L.NH r) (Ne.Len_ok hw.n)) ?_)
 rintro v l' ⟨rfl, rfl⟩
 rw [List.length_map]
 refine ⟨tok_, ?_⟩
 refine JDp 11 rfl (y_lss rfl rfl (decide_eq_true (by omega))) ?_
 refine JDp 12 rfl (y_pick_t rfl (by conv => lhs; whnf)) ?_
 refine JDp 13 rfl y_as ?_
 refine JDd ?_
 refine AU0 ?_
 refine JC.perm (l' := (b3, isC 28 (stC 3 0 0 0)) :: (b, isC 81 (L.c w)) :: (L.NH ++ r)) (perm_mid [_, _] L.NH r).symm ?_
 exact JC.sub (List.sublist_cons_self _ _) (JC.ret (RT.one rfl rfl (v := .bool true) rfl ⟨rfl, rfl⟩))
end Go.Proofs.YtbalcgjphkdecaaGreatDoor.To
namespace Go.Proofs.YtbalcgjphkdecaaGreatDoor.To
open Go.RowKit Go.Lg
set_option maxRecDepth 100000
attribute [local irreducible] JC JL JD RN RT Eff Yld YldIf Tr partsL okR splitL wordB joinD fit betweenS laidS viaS De.wrapB De.num De.clampI K Se.sealB Pa.byts Au.byts RP.byts Mg.byts Se.inc tillM Sp.kst
theorem Do_chase {w w' : WS} {c s : Nat} (h : chaseW w c s = some w') {n : Int} {b : Nat} {H r : List Ent} {W : World} (hB : WorldB W b w H) :
  Tr Pg 7 #[ptr b, .agg (stC 1 (100 + c) n s).toArray] W (H ++ r) fun v l' => v = iv 0 ∧ ∃ H', WorldB W b w' H' ∧ l' = H' ++ r := by
 obtain ⟨x, t, x', z, m, hx, ht, -, -⟩ := chaseW_spec h
 have hc := (List.getElem?_eq_some_iff.1 hx).1
 have hs := (List.getElem?_eq_some_iff.1 ht).1
 have hB0 := hB
 obtain ⟨L, hw, hH⟩ := hB0
 refine Tr.of_code (args := [_, _]) Tryz.func7 rfl Tryz.ntmps7 lE_ ?_
 refine AU0 ?_
 refine JLs (e_box (cs := stC 1 (100 + c : Int) n (s : Int)) rfl rfl fun b3 => ?_)
 refine AU1 ?_
 refine JLs (e_call rfl rfl (may_cs (k := 1) (by decide) hc hs hw.cn hw.svn (List.mem_cons_of_mem _ (wE_mem (b := b) hH))) ?_)
 rintro v l' ⟨rfl, rfl⟩
 refine AU1 ?_
 refine JLs (e_call rfl rfl (Tr.perm (l' := H ++ ((b3, isC 28 (stC 1 (100 + c : Int) n (s : Int))) :: r)) (perm_mid [_] H r) (chases_ok h hB)) ?_)
 rintro v l' ⟨rfl, H', hB', rfl⟩
 refine AU0 ?_
 refine JC.perm (l' := _ :: (H' ++ r)) (perm_mid [_] H' r).symm ?_
 exact JC.sub (List.sublist_cons_self _ _) (JC.ret (RT.one rfl rfl (v := iv 0) rfl ⟨rfl, H', hB', rfl⟩))
theorem Do_ask {w w' : WS} {c s : Nat} (h : askW w c s = some (some w')) {n : Int} {b : Nat} {H r : List Ent} {W : World} (hB : WorldB W b w H) :
  Tr Pg 7 #[ptr b, .agg (stC 2 (100 + c) n s).toArray] W (H ++ r) fun v l' => v = iv 0 ∧ ∃ H', WorldB W b w' H' ∧ l' = H' ++ r := by
 obtain ⟨x, t, hx, ht, -⟩ := askW_spec h
 have hc := (List.getElem?_eq_some_iff.1 hx).1
 have hs := (List.getElem?_eq_some_iff.1 ht).1
 have hB0 := hB
 obtain ⟨L, hw, hH⟩ := hB0
 refine Tr.of_code (args := [_, _]) Tryz.func7 rfl Tryz.ntmps7 lE_ ?_
 refine AU0 ?_
 refine JLs (e_box (cs := stC 2 (100 + c : Int) n (s : Int)) rfl rfl fun b3 => ?_)
 refine AU1 ?_
 refine JLs (e_call rfl rfl (may_cs (k := 2) (by decide) hc hs hw.cn hw.svn (List.mem_cons_of_mem _ (wE_mem (b := b) hH))) ?_)
 rintro v l' ⟨rfl, rfl⟩
 refine AU1 ?_
 refine JLs (e_call rfl rfl (Tr.perm (l' := H ++ ((b3, isC 28 (stC 2 (100 + c : Int) n (s : Int))) :: r)) (perm_mid [_] H r) (asks_yes h hB)) ?_)
 rintro v l' ⟨rfl, H', hB', rfl⟩
 refine AU0 ?_
 refine JC.perm (l' := _ :: (H' ++ r)) (perm_mid [_] H' r).symm ?_
 exact JC.sub (List.sublist_cons_self _ _) (JC.ret (RT.one rfl rfl (v := iv 0) rfl ⟨rfl, H', hB', rfl⟩))
theorem Do_askNo {w : WS} {c s : Nat} (h : askW w c s = some none) {n : Int} {b : Nat} {H r : List Ent} {W : World} (hB : WorldB W b w H) :
  Tr Pg 7 #[ptr b, .agg (stC 2 (100 + c) n s).toArray] W (H ++ r) fun v l' => v = iv 4 ∧ l' = H ++ r := by
 obtain ⟨x, t, hx, ht, -⟩ := askW_spec h
 have hc := (List.getElem?_eq_some_iff.1 hx).1
 have hs := (List.getElem?_eq_some_iff.1 ht).1
 have hB0 := hB
 obtain ⟨L, hw, hH⟩ := hB0
 refine Tr.of_code (args := [_, _]) Tryz.func7 rfl Tryz.ntmps7 lE_ ?_
 refine AU0 ?_
 refine JLs (e_box (cs := stC 2 (100 + c : Int) n (s : Int)) rfl rfl fun b3 => ?_)
 refine AU1 ?_
 refine JLs (e_call rfl rfl (may_cs (k := 2) (by decide) hc hs hw.cn hw.svn (List.mem_cons_of_mem _ (wE_mem (b := b) hH))) ?_)
 rintro v l' ⟨rfl, rfl⟩
 refine AU1 ?_
 refine JLs (e_call rfl rfl (Tr.perm (l' := H ++ ((b3, isC 28 (stC 2 (100 + c : Int) n (s : Int))) :: r)) (perm_mid [_] H r) (asks_no h hB)) ?_)
 rintro v l' ⟨rfl, rfl⟩
 refine AU0 ?_
 refine JC.perm (l' := _ :: (H ++ r)) (perm_mid [_] H r).symm ?_
 exact JC.sub (List.sublist_cons_self _ _) (JC.ret (RT.one rfl rfl (v := iv 4) rfl ⟨rfl, rfl⟩))
end Go.Proofs.YtbalcgjphkdecaaGreatDoor.To
namespace Go.Proofs.YtbalcgjphkdecaaGreatDoor.To
open Go.RowKit Go.Lg
set_option maxRecDepth 100000
theorem tickW_spec {w w' : WS} {nd n : Int} (h : tickW w nd n = some w') : (100 ≤ nd ∧ nd < 100 + w.cl.length ∨ 200 ≤ nd ∧ nd < 200 + w.ac.length) ∧ 0 ≤ n ∧ n ≤ 1000 ∧ 0 ≤ nowM w.ck nd ∧ nowM w.ck nd ≤ 1073741824 ∧ w' = { w with ck := setCk w.ck nd (min (nowM w.ck nd + n) 1073741824) } := by
 unfold tickW at h
 split at h
 case isFalse => cases h
 rename_i hc
 cases h
 exact ⟨hc.1, hc.2.1, hc.2.2.1, hc.2.2.2.1, hc.2.2.2.2, rfl⟩
attribute [local irreducible] JC JL JD RN RT Eff Yld YldIf Tr partsL okR splitL wordB joinD fit betweenS laidS viaS De.wrapB De.num De.clampI K Se.sealB Pa.byts Au.byts RP.byts Mg.byts Se.inc tillM Sp.kst
theorem delivers_all {w w' : WS} {fr to : Int} {m : MS} {net : List (Int × Int × MS)} (hnet : w.net = (fr, to, m) :: net) (h : deliverW w = some w') {b : Nat} {H r : List Ent} {W : World} (hB : WorldB W b { w with net := net } H) {vA : Option Addr} {vn vc : Nat} (hv : BV W r (.slice vA vn vc) m.mg.byts) :
  Tr Pg 21 #[ptr b, .agg #[iv fr, iv to, .slice vA vn vc]] W (H ++ r) fun v l' => v = .tuple #[] ∧ ∃ H', WorldB W b w' H' ∧ l' = H' ++ r := by
 unfold deliverW at h
 rw [hnet] at h
 dsimp only at h
 split at h
 ·rename_i h1
  split at h
  case h_2 => cases h
  rename_i k hk
  split at h
  case h_2 => cases h
  rename_i k' m' hh
  split at h
  case isFalse => cases h
  rename_i hc
  simp only [Bool.and_eq_true, decide_eq_true_eq] at hc
  cases h
  exact delivers_K (w := { w with net := net }) (i := to.toNat) (by omega) hk hh hc.1.1.1.1 (nb_spec hc.1.1.2) (nb_spec hc.1.2) (nb_spec hc.2) hB hv
 ·split at h
  ·rename_i h0 h1
   split at h
   case h_2 => cases h
   rename_i x hx
   split at h
   ·rename_i x' z m' ht
    exact delivers_C (w := { w with net := net }) (c := (to - 100).toNat) (res := some (z, m')) (by omega) hx ht h hB hv
   ·rename_i x' ht
    split at h
    case isFalse => cases h
    rename_i hid
    cases h
    exact delivers_C (w := { w with net := net }) (c := (to - 100).toNat) (res := none) (by omega) hx ht ⟨hid, rfl⟩ hB hv
   ·cases h
  ·split at h
   case isFalse => cases h
   rename_i h0 h1 h2
   split at h
   case h_2 => cases h
   rename_i x hx
   split at h
   ·rename_i x' a1 ht
    split at h
    case isFalse => cases h
    rename_i hc
    cases h
    exact delivers_S (w := { w with net := net }) (c := (to - 200).toNat) (by omega) hx ht (nb_spec hc) hB hv
   ·rename_i x' ht
    cases h
    exact delivers_N (w := { w with net := net }) (c := (to - 200).toNat) (by omega) hx ht hB hv
   ·cases h
set_option maxHeartbeats 2000000 in
theorem Do_tick {w w' : WS} {nd n : Int} (h : tickW w nd n = some w') {b : Nat} {H r : List Ent} {W : World} (hB : WorldB W b w H) :
  Tr Pg 7 #[ptr b, .agg (stC 6 nd n 0).toArray] W (H ++ r) fun v l' => v = iv 0 ∧ ∃ H', WorldB W b w' H' ∧ l' = H' ++ r := by
 obtain ⟨h1, h2, h3, h4, h5, rfl⟩ := tickW_spec h
 obtain ⟨L, hw, rfl⟩ := hB
 refine Tr.of_code (args := [_, _]) Tryz.func7 rfl Tryz.ntmps7 lE_ ?_
 refine AU0 ?_
 refine JLs (e_box (cs := stC 6 nd n 0) rfl rfl fun b3 => ?_)
 refine AU1 ?_
 refine JLs (e_call rfl rfl (may_tick hw.kn hw.cn hw.an h1 ⟨h2, h3⟩ (List.mem_cons_of_mem _ (List.mem_cons_self ..))) ?_)
 rintro v l' ⟨rfl, rfl⟩
 unfold wE mE
 refine AU1 ?_
 refine JC.drawn 18 rfl mixed ?_
 refine JDp 0 rfl y_mv ?_
 refine JDp 1 rfl (y_nilCheck rfl) ?_
 refine JDp 2 rfl (y_fieldAddr rfl) ?_
 refine JDr 3 1 rfl rfl (r_load1 rfl rfl) ?_
 refine JDp 4 rfl (y_fieldAddr rfl) ?_
 refine JDr 5 0 rfl rfl (r_load1 rfl rfl) ?_
 refine JDp 6 rfl y_mv ?_
 refine JDp 7 rfl (y_nilCheck rfl) ?_
 refine JDp 8 rfl (y_fieldAddr rfl) ?_
 refine JDr 9 1 rfl rfl (r_load1 rfl rfl) ?_
 refine JDp 10 rfl (y_fieldAddr rfl) ?_
 refine JDr 11 0 rfl rfl (r_load1 rfl rfl) ?_
 refine JDr 12 2 rfl rfl (r_lookupI zero_int rfl rfl) ?_
 refine JDp 13 rfl (y_fieldAddr rfl) ?_
 refine JDr 14 0 rfl rfl (r_load1 rfl rfl) ?_
 refine JDp 15 rfl (y_add rfl rfl (wrap_add (by omega) (by omega))) ?_
 refine JDp 16 rfl (y_min rfl rfl (min_int _ _)) ?_
 refine JDe 17 rfl (e_updateI 2 rfl rfl rfl rfl ⟨tok_, ?_⟩)
 refine JDd ?_
 refine AU0 ?_
 refine JC.cast (l' := (b3, isC 28 (stC 6 nd n 0)) :: ((wE b L w :: (L.mb, isMi (setCk w.ck nd (min (nowM w.ck nd + n) 1073741824))) :: spE L.sb L.sm :: L.H) ++ r)) rfl ?_
 exact JC.sub (List.sublist_cons_self _ _) (JC.ret (RT.one rfl rfl (v := iv 0) rfl ⟨rfl, _, ⟨L, { hw with tt := hw.tt }, rfl⟩, rfl⟩))
set_option maxHeartbeats 4000000 in
theorem Do_deliver {w w' : WS} (h : deliverW w = some w') (hm : w.net.length ≤ 32) {b : Nat} {H r : List Ent} {W : World} (hB : WorldB W b w H) :
  Tr Pg 7 #[ptr b, .agg (stC 3 0 0 0).toArray] W (H ++ r) fun v l' => v = iv 0 ∧ ∃ H', WorldB W b w' H' ∧ l' = H' ++ r := by
 obtain ⟨L, hw, rfl⟩ := hB
 obtain ⟨fr, to, m, net, hnet⟩ : ∃ fr to m net, w.net = (fr, to, m) :: net := by
  unfold deliverW at h
  split at h
  ·cases h
  ·rename_i fr to m net hnet
   exact ⟨fr, to, m, net, hnet⟩
 have h0 : 0 < w.net.length := by rw [hnet]; exact Nat.succ_pos _
 refine Tr.perm (l' := wE b L w :: (L.NH ++ ((L.mb, isMi w.ck) :: spE L.sb L.sm :: (L.TH ++ (L.rl ++ (L.kl ++ (L.KH ++ (L.cl ++ (L.CH ++ (L.sl ++ (L.al ++ (L.AH ++ (L.acl ++ (L.AccH ++ (L.isl ++ r))))))))))))))) (by unfold WL.H mE; exact prm_) ?_
 refine Tr.of_code (args := [_, _]) Tryz.func7 rfl Tryz.ntmps7 lE_ ?_
 refine AU0 ?_
 refine JLs (e_box (cs := stC 3 0 0 0) rfl rfl fun b3 => ?_)
 refine AU1 ?_
 refine JLs (e_call rfl rfl (Tr.perm (l' := wE b L w :: (L.NH ++ ((b3, isC 28 (stC 3 0 0 0)) :: (L.mb, isMi w.ck) :: spE L.sb L.sm :: (L.TH ++ (L.rl ++ (L.kl ++ (L.KH ++ (L.cl ++ (L.CH ++ (L.sl ++ (L.al ++ (L.AH ++ (L.acl ++ (L.AccH ++ (L.isl ++ r))))))))))))))) prm_ (may_deliver hw h0 hm)) ?_)
 rintro v l' ⟨rfl, rfl⟩
 unfold wE
 refine JL.perm (l' := (b3, isC 28 (stC 3 0 0 0)) :: (b, isC 81 (L.c w)) :: (L.NH ++ ((L.mb, isMi w.ck) :: spE L.sb L.sm :: (L.TH ++ (L.rl ++ (L.kl ++ (L.KH ++ (L.cl ++ (L.CH ++ (L.sl ++ (L.al ++ (L.AH ++ (L.acl ++ (L.AccH ++ (L.isl ++ r))))))))))))))) prm_ ?_
 refine AU1 ?_
 refine JC.cut (fun f l' => ∃ b5 vA vc le NH', FrOk f [(0, ptr b), (3, ptr b3), (5, ptr b5)] ∧ BV W le (.slice vA m.mg.byts.length vc) m.mg.byts ∧ Ne.Box 122 W L.nb (net.map pkN) L.ss NH' ∧ l' = (b5, isC 64 [iv fr, iv to, .slice vA m.mg.byts.length vc]) :: (le ++ (NH' ++ ((b3, isC 28 (stC 3 0 0 0)) :: (b, isC 81 (L.c w)) :: (L.mb, isMi w.ck) :: spE L.sb L.sm :: (L.TH ++ (L.rl ++ (L.kl ++ (L.KH ++ (L.cl ++ (L.CH ++ (L.sl ++ (L.al ++ (L.AH ++ (L.acl ++ (L.AccH ++ (L.isl ++ r)))))))))))))))) ?_ fun K' hT2 => ?_
 rotate_left
 refine JC.drawn 13 rfl mixed ?_
 refine JDp 0 rfl y_mv ?_
 refine JDp 1 rfl (y_nilCheck rfl) ?_
 refine JDp 2 rfl (y_fieldAddr rfl) ?_
 refine JDr 3 1 rfl rfl (r_load1 rfl rfl) ?_
 refine JDp 4 rfl (y_fieldAddr rfl) ?_
 refine JDr 5 0 rfl rfl (r_load1 rfl rfl) ?_
 refine JD.eff2 6 10 (by kernel_rfl) rfl rfl rfl rfl (e_call rfl rfl (Tr.perm (l' := L.NH ++ ((b3, isC 28 (stC 3 0 0 0)) :: (b, isC 81 (L.c w)) :: (L.mb, isMi w.ck) :: spE L.sb L.sm :: (L.TH ++ (L.rl ++ (L.kl ++ (L.KH ++ (L.cl ++ (L.CH ++ (L.sl ++ (L.al ++ (L.AH ++ (L.acl ++ (L.AccH ++ (L.isl ++ r)))))))))))))) (perm_mid [_, _] L.NH _) (Ne.Pull_yes (i := 0) (q := pkN (fr, to, m)) hw.n (by rw [hnet]; rfl) (by rw [List.length_map]; omega))) ?_) (e_alloc fun b5 => ⟨tok_, ?_⟩)
 ·rintro v l' ⟨v', le, rfl, ho, -, NH', hN, rfl⟩
  obtain ⟨vA, vc, rfl, hvs⟩ := BV.own (W := W) (bs := m.mg.byts) ho
  refine ⟨tok_, ?_⟩
  refine JDp 7 rfl y_mv ?_
  refine JDp 8 rfl (y_extract rfl rfl) ?_
  refine JDp 9 rfl (y_extract rfl rfl) ?_
  refine JDe 10 rfl (e_alloc fun b5 => ⟨tok_, ?_⟩)
  refine JDe 11 rfl (e_store 0 rfl rfl rfl (vs := [iv fr, iv to, .slice vA m.mg.byts.length vc]) rfl rfl rfl lE_ ⟨tok_, ?_⟩)
  refine JDp 12 rfl y_as ?_
  refine JDd ?_
  refine RN.cast (l' := (b5, isC 64 [iv fr, iv to, .slice vA m.mg.byts.length vc]) :: (le ++ (NH' ++ ((b3, isC 28 (stC 3 0 0 0)) :: (b, isC 81 (L.c w)) :: (L.mb, isMi w.ck) :: spE L.sb L.sm :: (L.TH ++ (L.rl ++ (L.kl ++ (L.KH ++ (L.cl ++ (L.CH ++ (L.sl ++ (L.al ++ (L.AH ++ (L.acl ++ (L.AccH ++ (L.isl ++ r)))))))))))))))) rfl ?_
  exact hT2 _ _ ⟨b5, vA, vc, le, NH', ⟨rfl, rfl, rfl, trivial⟩, ⟨vA, vc, rfl, hvs⟩, by rw [hnet] at hN; exact hN, rfl⟩
 ·refine JDe 6 rfl (e_call rfl rfl (Tr.perm (l' := L.NH ++ (_ :: (b3, isC 28 (stC 3 0 0 0)) :: (b, isC 81 (L.c w)) :: (L.mb, isMi w.ck) :: spE L.sb L.sm :: (L.TH ++ (L.rl ++ (L.kl ++ (L.KH ++ (L.cl ++ (L.CH ++ (L.sl ++ (L.al ++ (L.AH ++ (L.acl ++ (L.AccH ++ (L.isl ++ r)))))))))))))) (perm_mid [_, _, _] L.NH _) (Ne.Pull_yes (i := 0) (q := pkN (fr, to, m)) hw.n (by rw [hnet]; rfl) (by rw [List.length_map]; omega))) ?_)
  rintro v l' ⟨v', le, rfl, ho, -, NH', hN, rfl⟩
  obtain ⟨vA, vc, rfl, hvs⟩ := BV.own (W := W) (bs := m.mg.byts) ho
  refine ⟨tok_, ?_⟩
  refine JD.perm (perm2 _ _ _ _) ?_
  refine JDp 7 rfl y_mv ?_
  refine JDp 8 rfl (y_extract rfl rfl) ?_
  refine JDp 9 rfl (y_extract rfl rfl) ?_
  refine JDe 11 rfl (e_store 0 rfl rfl rfl (vs := [iv fr, iv to, .slice vA m.mg.byts.length vc]) rfl rfl rfl lE_ ⟨tok_, ?_⟩)
  refine JDp 12 rfl y_as ?_
  refine JDd ?_
  refine RN.cast (l' := (b5, isC 64 [iv fr, iv to, .slice vA m.mg.byts.length vc]) :: (le ++ (NH' ++ ((b3, isC 28 (stC 3 0 0 0)) :: (b, isC 81 (L.c w)) :: (L.mb, isMi w.ck) :: spE L.sb L.sm :: (L.TH ++ (L.rl ++ (L.kl ++ (L.KH ++ (L.cl ++ (L.CH ++ (L.sl ++ (L.al ++ (L.AH ++ (L.acl ++ (L.AccH ++ (L.isl ++ r)))))))))))))))) rfl ?_
  exact hT2 _ _ ⟨b5, vA, vc, le, NH', ⟨rfl, rfl, rfl, trivial⟩, ⟨vA, vc, rfl, hvs⟩, by rw [hnet] at hN; exact hN, rfl⟩
 rintro f l' ⟨b5, vA, vc, le, NH', hf, hv, hN, rfl⟩
 refine RN.frame _ hf fun f' => ?_
 refine AU1 ?_
 refine JLs (e_call rfl rfl (Tr.perm (l' := ((b, isC 81 (L.c w)) :: (L.mb, isMi w.ck) :: spE L.sb L.sm :: (L.TH ++ (L.rl ++ (L.kl ++ (L.KH ++ (L.cl ++ (L.CH ++ (L.sl ++ (L.al ++ (L.AH ++ (NH' ++ (L.acl ++ (L.AccH ++ L.isl))))))))))))) ++ ((b5, isC 64 [iv fr, iv to, .slice vA m.mg.byts.length vc]) :: (b3, isC 28 (stC 3 0 0 0)) :: (le ++ r))) prm_ (delivers_all hnet h (W := W) (b := b) (H := (b, isC 81 (L.c w)) :: (L.mb, isMi w.ck) :: spE L.sb L.sm :: (L.TH ++ (L.rl ++ (L.kl ++ (L.KH ++ (L.cl ++ (L.CH ++ (L.sl ++ (L.al ++ (L.AH ++ (NH' ++ (L.acl ++ (L.AccH ++ L.isl))))))))))))) ⟨{ L with NH := NH' }, { hw with n := hN }, rfl⟩ (hv.mono fun e he => by simp [he]))) ?_)
 rintro v l' ⟨rfl, H', hB', rfl⟩
 refine AU0 ?_
 refine JC.sub (l' := H' ++ r) (List.Sublist.append_left ((List.sublist_append_right le r).trans (List.sublist_append_right [_, _] _)) _) ?_
 exact JC.ret (RT.one rfl rfl (v := iv 0) rfl ⟨rfl, H', hB', rfl⟩)
end Go.Proofs.YtbalcgjphkdecaaGreatDoor.To
namespace Go.Proofs.YtbalcgjphkdecaaGreatDoor.To
open Go.RowKit Go.Lg
set_option maxRecDepth 100000
attribute [local irreducible] JC JL JD RN RT Eff Yld YldIf Tr partsL okR splitL wordB joinD fit betweenS laidS viaS De.wrapB De.num De.clampI K Se.sealB Pa.byts Au.byts RP.byts Mg.byts Se.inc tillM Sp.kst
theorem isUserW_yes {T : Topo} (hok : topoOk T = true) {s1 s2 s3 : Value} {p : P2} (hu : isUserB p = true) (hin : p.1 ∈ T.rs) {W : World} {l : List Ent} (hT : TopoV W l [s1, s2, s3] T) :
  Tr Pg 70 #[.agg #[s1, s2, s3], pv p] W l fun v l' => v = .bool true ∧ l' = l := by
 obtain ⟨h1, h2⟩ := isUserB_spec hu
 obtain ⟨t1, -, -, -⟩ := topo_le hok
 obtain ⟨A1, c1, A2, c2, A3, c3, xs, hvs, -, hr1, -⟩ := id hT
 obtain rfl : s1 = .slice A1 T.rs.length c1 := by injection hvs
 refine Tr.of_code (args := [_, _]) Tryz.func70 rfl Tryz.ntmps70 lE_ ?_
 refine AU0 ?_
 refine JLs (e_box (cs := [.slice A1 T.rs.length c1, s2, s3]) rfl rfl fun b2 => ?_)
 refine JLs (e_box (cs := enc2 p) rfl rfl fun b3 => ?_)
 refine AU1 ?_
 refine JLs (e_call rfl rfl (Target_ok (fitP_name h1.2.1)) ?_)
 rintro v l' ⟨rfl, rfl⟩
 rw [h2]
 refine AU1 ?_
 refine JLs (e_call rfl rfl (IsPrinc_yes h1) ?_)
 rintro v l' ⟨rfl, rfl⟩
 refine AU2 ?_
 refine JLs (e_call rfl rfl (ContainsS_ok p.1 rfl (by omega) (hr1.1.mono fun e he => by simp [he])) ?_)
 rintro v l' ⟨rfl, rfl⟩
 rw [decide_eq_true hin]
 refine AU0 ?_
 exact JC.sub (List.sublist_append_right [_, _] _) (JC.ret (RT.one rfl rfl (v := .bool true) rfl ⟨rfl, rfl⟩))
set_option maxHeartbeats 2000000 in
theorem areUsers_yes {T : Topo} (hok : topoOk T = true) {s1 s2 s3 : Value} {A : Option Addr} {n c : Nat} {xs : List P2} (hn : xs.length = n) (hm : n ≤ 1000) (hall : ∀ p ∈ xs, isUserB p = true ∧ p.1 ∈ T.rs) (hd : xs.Nodup) {W : World} {r : List Ent} (hT : TopoV W r [s1, s2, s3] T) (hs : SlV W r A n c (xs.flatMap enc2)) :
  Tr Pg 31 #[.agg #[s1, s2, s3], .slice A n c] W r fun v l' => v = .bool true ∧ l' = r := by
 refine Tr.of_code (args := [_, _]) Tryz.func31 rfl Tryz.ntmps31 lE_ ?_
 refine AU0 ?_
 refine JLs (e_box (cs := [s1, s2, s3]) rfl rfl fun b2 => ?_)
 refine AU0 ?_
 refine JC.loop (fun m f l => ∃ i, i + m = n ∧ FrOk f [(1, .slice A n c), (2, ptr b2), (7, .slice A n c), (8, .int .i64 (n : Int)), (9, .int .i64 (i : Int))] ∧ l = (b2, isC 43 [s1, s2, s3]) :: r) n ?_ ?_
 ·exact ⟨0, by omega, ⟨rfl, rfl, rfl, rfl, rfl, trivial⟩, rfl⟩
 rintro m f l ⟨i, hmi, hf, rfl⟩
 refine JC.frame _ hf fun f' => ?_
 by_cases hi : i < n
 ·have hi' : i < xs.length := by omega
  obtain ⟨b, o, rfl, hc⟩ := hs.1.at_ (by rw [row_len enc2 enc2_len]; omega)
  have hy := List.getElem?_eq_getElem hi'
  have hcap := hs.2.1
  have htl : (xs.take i).length = i := by rw [List.length_take]; omega
  obtain ⟨hu, hin⟩ := hall _ (List.getElem_mem hi')
  refine AU0 ?_
  refine JLs (e_loadSA (cs := enc2 (xs[i]'hi')) rfl (Src.elem enc2 enc2_len hc (fun _ h => List.mem_cons_of_mem _ h) hy) ?_)
  refine JLs (e_alloc fun b6 => ?_)
  refine AU0 ?_
  refine JLs (e_store 0 rfl rfl rfl (vs := enc2 (xs[i]'hi')) rfl rfl rfl lE_ ?_)
  refine JL.cast (l' := (b6, isC 48 (enc2 (xs[i]'hi'))) :: (b2, isC 43 [s1, s2, s3]) :: r) (by rfl) ?_
  refine AU0 ?_
  refine JC.drawn 11 rfl mixed ?_
  refine JDr 0 1 rfl rfl (r_loadA rfl lE_ rfl) ?_
  refine JDr 1 0 rfl rfl (r_loadA rfl lE_ rfl) ?_
  refine JDe 2 rfl (e_call rfl rfl (isUserW_yes hok hu hin (hT.mono fun e he => by simp [he])) ?_)
  rintro v l' ⟨rfl, rfl⟩
  refine ⟨tok_, ?_⟩
  refine JDp 3 rfl (y_not rfl) ?_
  refine JDp 4 rfl y_mv ?_
  refine JDp 5 rfl y_mv ?_
  refine JDp 6 rfl y_mv ?_
  refine JDp 7 rfl (y_sliceTo (h := i) rfl rfl (by omega)) ?_
  refine JDr 8 0 rfl rfl (r_loadA rfl lE_ rfl) ?_
  refine JDe 9 rfl (e_call rfl rfl (ContainsP_ok (xs := xs.take i) (xs[i]'hi') htl (by omega) (by rw [row_take enc2 enc2_len]; exact (hs.1.take _).mono fun e he => by simp [he])) ?_)
  rintro v l' ⟨rfl, rfl⟩
  rw [decide_eq_false (not_before hd hi')]
  refine ⟨tok_, ?_⟩
  refine JDp 10 rfl (y_pick_f rfl (by conv => lhs; whnf)) ?_
  refine JDd ?_
  refine RN.sub (List.sublist_cons_self _ _) ?_
  refine AU0 ?_
  exact RN.loop (m' := m - 1) (by omega) ⟨i + 1, by omega, ⟨rfl, rfl, rfl, rfl, rfl, trivial⟩, rfl⟩
 ·obtain rfl : n = i := by omega
  refine AU0 ?_
  exact JC.sub (List.sublist_cons_self _ _) (JC.ret (RT.one rfl rfl (v := .bool true) rfl ⟨rfl, rfl⟩))
end Go.Proofs.YtbalcgjphkdecaaGreatDoor.To
namespace Go.Proofs.YtbalcgjphkdecaaGreatDoor.To
open Go.RowKit Go.Lg
set_option maxRecDepth 100000
attribute [local irreducible] JC JL JD RN RT Eff Yld YldIf Tr partsL okR splitL wordB joinD fit betweenS laidS viaS De.wrapB De.num De.clampI K Se.sealB Pa.byts Au.byts RP.byts Mg.byts Se.inc tillM Sp.kst
theorem ringW_ok {w : WS} {z : S} {j : Nat} (h : idxR w.T.rs z = (j : Int)) {b : Nat} {L : WL} {W : World} (hw : WOk W w L) {q : Nat × Nat} (hq : L.kid[j]? = some q) {l : List Ent} (hm : wE b L w ∈ l) (hr : ∀ e ∈ L.TH, e ∈ l) (hl : ∀ e ∈ L.rl, e ∈ l) :
  Tr Pg 42 #[ptr b, sv z] W l fun v l' => v = ptr q.1 ∧ l' = l := by
 obtain ⟨i, hi⟩ := List.mem_iff_getElem?.1 hm
 unfold wE at hi
 have hkl : L.kid.length = w.kd.length := hw.kh.len
 have hj : j < w.kd.length := by rw [← hkl]; exact (List.getElem?_eq_some_iff.1 hq).1
 obtain ⟨t1, -, -, -⟩ := topo_le hw.tt
 obtain ⟨A1, c1, A2, c2, A3, c3, xs, hvs, -, hr1, -⟩ := id hw.t
 obtain ⟨e1, e2⟩ : L.t1A = A1 ∧ L.t1c = c1 := by injection hvs with e _; injection e with e1 _ e3; exact ⟨e1, e3⟩
 rw [← e1, ← e2] at hr1
 obtain ⟨g, cap, he, -, -, hrl⟩ := De.own_some hw.r (by omega)
 injection he with he1 _ he3
 obtain ⟨i2, hi2⟩ := List.mem_iff_getElem?.1 (hl _ (by rw [hrl]; exact List.mem_singleton_self _))
 have h' : idxF (fun y => decide (y = z)) w.T.rs 0 = (j : Int) := h
 refine Tr.of_code (args := [_, _]) Tryz.func42 rfl Tryz.ntmps42 lE_ ?_
 refine AU0 ?_
 refine JC.drawn 14 rfl mixed ?_
 refine JDp 0 rfl y_mv ?_
 refine JDp 1 rfl (y_nilCheck rfl) ?_
 refine JDp 2 rfl (y_fieldAddr rfl) ?_
 refine JDr 3 i hi rfl (r_load1 (v := .slice (some ⟨g, 0, none⟩) w.kd.length cap) rfl (by rw [← he1, ← he3]; rfl)) ?_
 refine JDp 4 rfl y_mv ?_
 refine JDp 5 rfl (y_nilCheck rfl) ?_
 refine JDp 6 rfl (y_fieldAddr rfl) ?_
 refine JDp 7 rfl (y_fieldAddr rfl) ?_
 refine JDr 8 i hi rfl (r_load1 (v := .slice L.t1A w.T.rs.length L.t1c) rfl rfl) ?_
 refine JDp 9 rfl y_mv ?_
 refine JDe 10 rfl (e_call rfl rfl (IndexS_ok z rfl (by omega) (hr1.1.mono hr)) ?_)
 rintro v l' ⟨rfl, rfl⟩
 rw [h']
 refine ⟨by repeat (first | exact TOk.nil | refine TOk.mem (List.mem_of_getElem? (by assumption)) ?_), ?_⟩
 refine JDp 11 rfl (y_index (j := j) rfl rfl hj) ?_
 refine JDr 12 i2 hi2 rfl (r_loadR1 rfl (by rw [List.getElem?_map, Nat.zero_add, Nat.mul_one, hq]; rfl)) ?_
 refine JDp 13 rfl y_as ?_
 refine JDd ?_
 refine AU0 ?_
 exact JC.ret (RT.one rfl rfl (v := ptr q.1) rfl ⟨rfl, rfl⟩)
end Go.Proofs.YtbalcgjphkdecaaGreatDoor.To
namespace Go.Proofs.YtbalcgjphkdecaaGreatDoor.To
open Go.RowKit Go.Lg
set_option maxRecDepth 100000
theorem addR_spec {its its' : List RI} {p : P2} {k : Nat} (h : addR its p k = some its') : lastAt (isP p) its 0 = none ∧ okP p ∧ its.length < 40 ∧ its' = its ++ [⟨p, 1, k⟩] := by
 unfold addR at h
 split at h
 ·cases h
 ·rename_i h1
  split at h
  case isFalse => cases h
  rename_i h2
  simp only [Bool.and_eq_true, decide_eq_true_eq] at h2
  cases h
  exact ⟨h1, okPb_spec h2.1, h2.2, rfl⟩
theorem atR_spec {T : Topo} {kd kd' : List KdcS} {r : S} {p : P2} {d : Nat} (h : atR T kd r p d = some kd') : ∃ (j : Nat) (k : KdcS), idxR T.rs r = (j : Int) ∧ kd[j]? = some k ∧ lastAt (isP p) k.its 0 = none ∧ okP p ∧ k.its.length < 40 ∧ kd' = kd.set j ⟨k.r, k.n, k.iss, k.its ++ [⟨p, 1, d⟩]⟩ := by
 unfold atR at h
 split at h
 case isFalse => cases h
 rename_i h0
 unfold addK at h
 split at h
 case h_2 => cases h
 rename_i k hk
 obtain ⟨its, h1, h2⟩ := Option.map_eq_some_iff.1 h
 obtain ⟨a1, a2, a3, rfl⟩ := addR_spec h1
 exact ⟨(idxR T.rs r).toNat, k, by omega, hk, a1, a2, a3, h2.symm⟩
attribute [local irreducible] JC JL JD RN RT Eff Yld YldIf Tr partsL okR splitL wordB joinD fit betweenS laidS viaS De.wrapB De.num De.clampI K Se.sealB Pa.byts Au.byts RP.byts Mg.byts Se.inc tillM Sp.kst
theorem ringAdd_ok {w : WS} {L : WL} {W : World} (hw : WOk W w L) {j : Nat} {k : KdcS} (hk : w.kd[j]? = some k) {p : P2} (hp : okP p) (hm : k.its.length < 40) (hno : lastAt (isP p) k.its 0 = none) (d : Nat) :
  ∃ (q : Nat × Nat) (KA KB HK : List Ent), L.kid[j]? = some q ∧ L.KH = KA ++ (HK ++ KB) ∧ ∀ r, Tr Pg 38 #[ptr q.1, pv p, .agg ((K d).map bv).toArray] W (HK ++ r) fun v l' => v = .tuple #[iv 1, iv 0] ∧
   ∃ HK', WOk W { w with kd := w.kd.set j ⟨k.r, k.n, k.iss, k.its ++ [⟨p, 1, d⟩]⟩ } { L with KH := KA ++ (HK' ++ KB) } ∧ l'.Perm (HK' ++ r) := by
 obtain ⟨q, KA, H1, KB, hq, ⟨t1, t2, t3, RH, TH2, bl, hT, hR, hbl, hits, rfl⟩, hKH, hset⟩ := hw.kh.get hk
 have hbm : bl.length < 40 := by have := congrArg List.length hbl; rw [List.length_map] at this; omega
 refine ⟨q, KA, KB, _, hq, hKH, fun r => ?_⟩
 refine Tr.perm (l' := RH ++ (kdcE q.2 q.1 t1 t2 t3 k :: (TH2 ++ r))) (by simpa only [List.cons_append, List.append_assoc, List.nil_append] using perm_mid [kdcE q.2 q.1 t1 t2 t3 k] RH (TH2 ++ r)) ?_
 refine (Add_ok hR hp hbm (by rw [hbl]; exact hno) d).mono ?_
 rintro v l' ⟨rfl, xb, kb, RH', hR', rfl⟩
 refine ⟨rfl, kdcE q.2 q.1 t1 t2 t3 ⟨k.r, k.n, k.iss, k.its ++ [⟨p, 1, d⟩]⟩ :: (RH' ++ TH2), ?_, ?_⟩
 ·exact { hw with
   r := by dsimp only; rw [List.length_set]; exact hw.r
   k := by dsimp only; rw [List.length_set]; exact hw.k
   kh := hset _ _ ⟨t1, t2, t3, RH', TH2, _, hT, hR', by rw [List.map_append, hbl]; rfl, by rw [List.length_append]; show _ + 1 ≤ 1000; omega, rfl⟩
   kn := by dsimp only; rw [List.length_set]; exact hw.kn
   kr := by dsimp only; rw [List.length_set]; exact hw.kr }
 ·have := (perm_mid [kdcE q.2 q.1 t1 t2 t3 k] RH' (TH2 ++ r)).symm
  simp only [List.cons_append, List.append_assoc, List.nil_append] at this ⊢
  exact this
end Go.Proofs.YtbalcgjphkdecaaGreatDoor.To
namespace Go.Proofs.YtbalcgjphkdecaaGreatDoor.To
open Go.RowKit Go.Lg
set_option maxRecDepth 100000
section
variable {P : Program} {ρ : Operand → Value} {d : Option Tmp} {ty : TypeId} {pos : String} {af : Array Edge} {gd : Option (Nat × Bool)} {W : World} {l : List Ent} {Ψ : Value → List Ent → Prop}
theorem e_growNilN {t e u : TypeId} {by_ n sz : Nat} {z : List Value} {x : Operand} {s : Operand} {k ku : IntKind} [ht : SliceT P t e] [hi : RowT P e sz by_] [hz : Zr P e z] [hu : IntT P u ku]
  (hx : ρ s = .slice none 0 0) (hy : ρ x = .int k (n : Int)) (h0 : 0 < n) (hb : n * by_ ≤ 140737488355328) (h63 : n ≤ maxLen)
  (h : ∀ b cap, n ≤ cap → cap ≤ maxLen → Ψ (.slice (some ⟨b, 0, none⟩) n cap) ((b, isR e (cap * sz) []) :: l)) : Eff P W l ⟨d, .call { callee := .builtin .append, args := #[s, x], argTypes := #[t, u] }, ty, pos, af, gd⟩ ρ Ψ := by
 intro w hw
 obtain ⟨i, zv, hi1, hi2, hi3, hi4, hi5, hi6⟩ := rowB_spec hi.h
 have h63' : n ≤ 9223372036854775807 := by simp only [maxLen] at h63; omega
 have hwr : IntKind.i64.wrap (n : Int) = (n : Int) := wrap_add (by omega) (by omega)
 have hn : ¬ n = 0 := by omega
 have hb' : ¬ (281474976710656 < (n : Int) * (i.bytes : Int)) := by
  rw [hi4, ← Int.natCast_mul]
  omega
 have h48' : ¬ (281474976710656 < Builtin.nextslicecap n 0 * i.bytes) := by rw [nextslicecap_zero h0, hi4]; omega
 have hge := grownCap_ge w n 0 e
 have hcm := grownCap_le_maxLen w n 0 e h63
 have hr : (Builtin.append_ #[t, u] ty #[.slice none 0 0, .int k (n : Int)]).run P w =
   .ok (.slice (some ⟨w.heap.size, 0, none⟩) n (grownCap w n 0 e)) (w.drew.alloc (.cells (Builtin.zeroCells zv.cells n ++ Builtin.zeroCells zv.cells (grownCap w n 0 e - n)) e)) := by
  have h63'' : ¬ (9223372036854775807 < (n : Int)) := by omega
  have hns : ¬ n * sz = 0 := Nat.ne_of_gt (Nat.mul_pos h0 hi6)
  simp [hns, Builtin.append_, run_underlying ht.h, run_underlying hu.h, sizeOf, typeInfo, zeroValue, hi1, hi2, hi3, asInt, asIntOf, hwr, show ¬ ((n : Int) < 0) from by omega, hb', hn, h63'', h48', Question.forced, run_firstCells_none, newRow, grownCap]
 unfold OpW
 simp only [execOp, resolve, Sem.run_bind, Sem.run_pure, Result.andThen_ok, invoke, builtin, List.map_toArray, List.map_cons, List.map_nil, hx, hy, hr]
 refine ⟨_, hw.drew.alloc _ (p := isR e (grownCap w n 0 e * sz) []) ?_, h _ _ hge hcm⟩
 refine ⟨_, rfl, ?_, by simp⟩
 simp only [Array.size_append, size_zeroCells, hi5]
 rw [← Nat.add_mul, Nat.add_sub_cancel' hge]
end
attribute [local irreducible] JC JL JD RN RT Eff Yld YldIf Tr
theorem GrowP_ok (n : Nat) (hn : n ≤ 1000000) (W : World) (r : List Ent) : Tr Pg 72 #[.slice none 0 0, .int .i64 (n : Int)] W r fun v l' => ∃ le, Lg.Own 48 2 v 0 [] le ∧ l' = le ++ r := by
 refine Tr.of_code (args := [_, _]) Tryz.func72 rfl Tryz.ntmps72 lE_ ?_
 have h0 : IntKind.i64.wrap ((n : Int) - ((((0 : Nat) : Int) - ((0 : Nat) : Int)))) = (n : Int) := by rw [wrap_add (by omega) (by omega)]; omega
 by_cases h : 0 < n
 ·repeat (first | refine JLp (y_cap rfl) ?_ | refine JLp (y_sub rfl rfl (c := 0) rfl) ?_ | refine JLp (y_sub rfl rfl (c := (n : Int)) (by rw [wrap_add (by omega) (by omega)]; omega)) ?_ | refine JLp (y_sliceNil rfl trivial ⟨_, rfl⟩) ?_ | refine AS0 ?_)
  refine JLs (e_growNilN rfl rfl h (by omega) (by unfold maxLen; omega) fun b cap h1 h2 => ?_)
  repeat (first | refine JLp (y_sliceTo (h := 0) rfl rfl (Nat.zero_le _)) ?_ | refine AS0 ?_)
  exact JC.ret (RT.one rfl rfl (by conv => lhs; whnf) ⟨[_], ⟨rfl, .inr ⟨b, cap, rfl, Nat.zero_le _, h2, rfl⟩⟩, rfl⟩)
 ·obtain rfl : n = 0 := by omega
  repeat (first | refine JLp (y_cap rfl) ?_ | refine JLp (y_sub rfl rfl (c := 0) rfl) ?_ | refine AS0 ?_)
  exact JC.ret (RT.one rfl rfl (by conv => lhs; whnf) ⟨[], Lg.Own.nil .., rfl⟩)
theorem flat_len_takeP (bss : List (List P2)) (i : Nat) : (bss.take i).flatten.length ≤ bss.flatten.length := by
 have h : bss.flatten = (bss.take i).flatten ++ (bss.drop i).flatten := by rw [← List.flatten_append, List.take_append_drop]
 rw [h, List.length_append]; omega
theorem flat_stepP {bss : List (List P2)} {i : Nat} (hi : i < bss.length) : (bss.take (i + 1)).flatten = (bss.take i).flatten ++ bss[i] := by
 rw [List.take_succ_eq_append_getElem hi, List.flatten_append]; simp
set_option maxHeartbeats 2000000 in
theorem ConcatP_ok {A : Option Addr} {n c : Nat} {bss : List (List P2)} {W : World} {r : List Ent} (hn : bss.length = n) (hn63 : n ≤ maxLen) {hds : List Value} (hsrc : Src W r A hds) (hlh : hds.length = n) (hrow : ∀ (i : Nat) (xs : List P2), bss[i]? = some xs → ∃ Ai ci, hds[i]? = some (Value.slice Ai (List.length xs) ci) ∧ Src W r Ai (xs.flatMap enc2)) (htot : bss.flatten.length ≤ 1000000) :
  Tr Pg 32 #[.slice A n c] W r fun v l' => ∃ le, Lg.Own 48 2 v bss.flatten.length (bss.flatten.flatMap enc2) le ∧ l' = le ++ r := by
 have hn' : (n : Int) ≤ 9223372036854775807 := by unfold maxLen at hn63; omega
 refine Tr.of_code (args := [_]) Tryz.func32 rfl Tryz.ntmps32 lE_ ?_
 refine AU0 ?_
 refine JC.loop (fun m f l => ∃ i, i + m = n ∧ FrOk f [(0, .slice A n c), (3, .int .i64 ((bss.take i).flatten.length : Int)), (9, .slice A n c), (10, .int .i64 (n : Int)), (11, .int .i64 (i : Int))] ∧ l = r) n ?_ ?_
 ·exact ⟨0, by omega, ⟨rfl, rfl, rfl, rfl, rfl, trivial⟩, rfl⟩
 rintro m f l ⟨i, hm, hf, rfl⟩
 refine JC.frame _ hf fun f' => ?_
 by_cases hi : i < n
 ·have hi' : i < bss.length := by omega
  obtain ⟨b, o, rfl, hc⟩ := hsrc.at_ (by omega)
  obtain ⟨Ai, ci, h1, h2⟩ := hrow i _ (List.getElem?_eq_getElem hi')
  have hc' : ∀ w, SH W l w → w.cell? ⟨b, o + i * 1, none⟩ = some (.slice Ai (bss[i]'hi').length ci) := fun w hw => by
   rw [Nat.mul_one]; exact hc l (fun _ h => h) w hw i _ h1
  have hb := flat_len_takeP bss (i + 1)
  have hst := congrArg List.length (flat_stepP hi')
  rw [List.length_append] at hst
  refine AU0 ?_
  refine JLs (e_loadS rfl hc' ?_)
  refine AU0 ?_
  refine RN.loop (m' := m - 1) (by omega) ⟨i + 1, by omega, ⟨rfl, ?_, rfl, rfl, rfl, trivial⟩, rfl⟩
  rw [hst]; rfl
 ·obtain rfl : n = i := by omega
  rw [List.take_of_length_le (by omega)]
  refine AU0 ?_
  refine JLs (e_call rfl rfl (GrowP_ok bss.flatten.length htot W l) ?_)
  rintro v l' ⟨le, ho, rfl⟩
  refine AU0 ?_
  refine JC.loop (fun m f l1 => ∃ i v le, i + m = n ∧ FrOk f [(6, v), (25, .slice A n c), (26, .int .i64 (n : Int)), (27, .int .i64 (i : Int))] ∧ Lg.Own 48 2 v (bss.take i).flatten.length ((bss.take i).flatten.flatMap enc2) le ∧ l1 = le ++ l) n ?_ ?_
  ·exact ⟨0, v, le, by omega, ⟨rfl, rfl, rfl, rfl, trivial⟩, ho, rfl⟩
  rintro m f l1 ⟨i, v, le, hm, hf, ho, rfl⟩
  refine JC.frame _ hf fun f' => ?_
  by_cases hi : i < n
  ·have hi' : i < bss.length := by omega
   obtain ⟨b, o, rfl, hc⟩ := hsrc.at_ (by omega)
   obtain ⟨Ai, ci, h1, h2⟩ := hrow i _ (List.getElem?_eq_getElem hi')
   have hc' : ∀ w, SH W (le ++ l) w → w.cell? ⟨b, o + i * 1, none⟩ = some (.slice Ai (bss[i]'hi').length ci) := fun w hw => by
    rw [Nat.mul_one]; exact hc (le ++ l) (fun _ h => List.mem_append_right _ h) w hw i _ h1
   have hb := flat_len_takeP bss (i + 1)
   have hst := congrArg List.length (flat_stepP hi')
   rw [List.length_append] at hst
   refine AU0 ?_
   refine JLs (e_loadS rfl hc' ?_)
   refine AU0 ?_
   refine JLs (e_appendP [] le rfl rfl ho rfl (news := (bss[i]'hi').flatMap enc2) (row_len enc2 enc2_len _) (h2.mono fun e he => List.mem_append_right _ he) (enc2_one _) (by omega) (by unfold maxLen; omega) fun v' le' ho' _ => ?_)
   refine AU0 ?_
   refine RN.loop (m' := m - 1) (by omega) ⟨i + 1, v', le', by omega, ⟨rfl, rfl, rfl, rfl, trivial⟩, ?_, rfl⟩
   rw [hst, flat_stepP hi', List.flatMap_append]
   exact ho'
  ·obtain rfl : n = i := by omega
   rw [List.take_of_length_le (by omega)] at ho
   refine AU0 ?_
   exact JC.ret (RT.one rfl rfl (by conv => lhs; whnf) ⟨le, ho, rfl⟩)
end Go.Proofs.YtbalcgjphkdecaaGreatDoor.To
namespace Go.Proofs.YtbalcgjphkdecaaGreatDoor.To
open Go.RowKit Go.Lg
set_option maxRecDepth 100000
theorem realmsM_at {T : Topo} : ∀ {rs : List S} {d : Nat} {kd : List KdcS}, realmsM T rs d = some kd → kd.length = rs.length ∧ ∀ (i : Nat) (r : S), rs[i]? = some r → okP (r, grantS ++ r) ∧ kd[i]? = some ⟨r, 0, 0, [⟨(r, grantS ++ r), 1, d + i⟩]⟩
 | [], d, kd, h => by cases h; exact ⟨rfl, fun i r hi => by simp at hi⟩
 | r :: rs, d, kd, h => by
  unfold realmsM at h
  split at h
  case h_2 => cases h
  rename_i its hi
  obtain ⟨l, h1, rfl⟩ := Option.map_eq_some_iff.1 h
  obtain ⟨-, a2, -, rfl⟩ := addR_spec hi
  obtain ⟨b1, b2⟩ := realmsM_at h1
  refine ⟨by rw [List.length_cons, List.length_cons, b1], fun i z hz => ?_⟩
  cases i with
  | zero => cases hz; exact ⟨a2, rfl⟩
  | succ i =>
   obtain ⟨c1, c2⟩ := b2 i z (by simpa using hz)
   refine ⟨c1, ?_⟩
   rw [List.getElem?_cons_succ, c2, Nat.add_assoc, Nat.add_comm 1 i]
theorem linksM_cons {T : Topo} {l : P2} {ls : List P2} {kd kd' : List KdcS} {d : Nat} (h : linksM T (l :: ls) kd d = some kd') :
  ∃ ka kb, atR T kd l.1 (l.1, grantS ++ l.2) d = some ka ∧ atR T ka l.2 (l.1, grantS ++ l.2) d = some kb ∧ linksM T ls kb (d + 1) = some kd' := by
 unfold linksM at h
 split at h
 case h_2 => cases h
 rename_i ka ha
 split at h
 case h_2 => cases h
 rename_i kb hb
 exact ⟨ka, kb, ha, hb, h⟩
theorem usersM_cons {T : Topo} {p : P2} {ps : List P2} {kd kd' : List KdcS} {d : Nat} (h : usersM T (p :: ps) kd d = some kd') :
  ∃ ka, atR T kd p.1 p d = some ka ∧ usersM T ps ka (d + 1) = some kd' := by
 unfold usersM at h
 split at h
 case h_2 => cases h
 rename_i ka ha
 exact ⟨ka, ha, h⟩
theorem take_at {α : Type} {l : List α} {i : Nat} {x : α} (h : l[i]? = some x) : l.take (i + 1) = l.take i ++ [x] := by
 rw [List.take_add_one, h]; rfl
theorem snocK {W : World} {w : WS} {L : WL} (hw : WOk W w L) (h6 : w.kd.length < w.T.rs.length) {q : Nat × Nat} {k : KdcS} {H1 : List Ent} (hk : KdcB W w.T q k H1) {A B : Option Addr} {c e : Nat} {la lb : List Ent}
  (ha : Lg.Own 100 1 (.slice A (w.kd.length + 1) c) (w.kd.length + 1) (L.kid.map (fun q => ptr q.1) ++ [ptr q.1]) la) (hb : Lg.Own 106 1 (.slice B (w.kd.length + 1) e) (w.kd.length + 1) (L.kid.map (fun q => ptr q.2) ++ [ptr q.2]) lb) :
  WOk W { w with kd := w.kd ++ [k], dr := w.dr + 1 } { L with rA := A, rc := c, rl := la, kA := B, kc := e, kl := lb, kid := L.kid ++ [q], KH := L.KH ++ H1, sm := true } :=
 have h7 := (topo_le hw.tt).1
 { hw with
  r := by dsimp only; rw [List.length_append, List.map_append]; exact ha
  k := by dsimp only; rw [List.length_append, List.map_append]; exact hb
  kh := hw.kh.snoc hk
  kn := by dsimp only; rw [List.length_append]; show w.kd.length + 1 ≤ 6; omega
  kr := by dsimp only; rw [List.length_append]; exact h6 }
theorem snocC {W : World} {w : WS} {L : WL} (hw : WOk W w L) (h3 : w.cl.length < 3) {q : Nat} {k : ClS} {H1 : List Ent} (hk : ClB W q k H1) {A : Option Addr} {c : Nat} {la : List Ent}
  (ha : Lg.Own 52 1 (.slice A (w.cl.length + 1) c) (w.cl.length + 1) (L.cid.map ptr ++ [ptr q]) la) :
  WOk W { w with cl := w.cl ++ [k] } { L with cA := A, cc := c, cl := la, cid := L.cid ++ [q], CH := L.CH ++ H1 } :=
 { hw with
  c := by dsimp only; rw [List.length_append, List.map_append]; exact ha
  ch := hw.ch.snoc hk
  cn := by dsimp only; rw [List.length_append]; exact h3 }
theorem snocA {W : World} {w : WS} {L : WL} (hw : WOk W w L) (h3 : w.ac.length < 3) {q : Nat} {k : AcS} {H1 : List Ent} (hk : AcB W w.T q k H1) {A : Option Addr} {c : Nat} {la : List Ent}
  (ha : Lg.Own 87 1 (.slice A (w.ac.length + 1) c) (w.ac.length + 1) (L.aid.map ptr ++ [ptr q]) la) :
  WOk W { w with ac := w.ac ++ [k] } { L with aA := A, ac := c, al := la, aid := L.aid ++ [q], AH := L.AH ++ H1 } :=
 { hw with
  a := by dsimp only; rw [List.length_append, List.map_append]; exact ha
  ah := hw.ah.snoc hk
  an := by dsimp only; rw [List.length_append]; exact h3 }
def wAll (b : Nat) (L : WL) (w : WS) (r : List Ent) : List Ent := wE b L w :: mE L w :: spE L.sb L.sm :: (L.H ++ r)
attribute [local irreducible] JC JL JD RN RT Eff Yld YldIf Tr partsL okR splitL wordB joinD fit betweenS laidS viaS De.wrapB De.num De.clampI K Se.sealB Pa.byts Au.byts RP.byts Mg.byts Se.inc tillM Sp.kst
theorem draw_p {b : Nat} {L : WL} {w : WS} (pre : List Ent) {l r : List Ent} (hl : l = pre ++ wAll b L w r) (hd : w.dr ≤ 1000000) {W : World} : Tr Pg 40 #[ptr b] W l fun v l' => v = .agg (ck (kf (K w.dr))).toArray ∧ l' = pre ++ wAll b { L with sm := true } { w with dr := w.dr + 1 } r := by
 subst hl
 rw [← ck_eq (K_len w.dr)]
 refine Tr.perm (l' := wE b L w :: spE L.sb L.sm :: (pre ++ (mE L w :: (L.H ++ r)))) (by unfold wAll; exact prm_) ?_
 refine Tr.out (draw_ok (b := b) (m := L.sm) (L := L) hd rfl) ?_
 rintro v l' ⟨rfl, rfl⟩
 refine ⟨pre ++ wAll b { L with sm := true } { w with dr := w.dr + 1 } r, Imp.perm ?_, rfl, rfl⟩
 show List.Perm _ (pre ++ (wE b L { w with dr := w.dr + 1 } :: mE L w :: spE L.sb true :: (L.H ++ r)))
 exact prm_
theorem al_kd {b : Nat} {L : WL} {w : WS} {kd : List KdcS} (h : kd.length = w.kd.length) (KH : List Ent) : wE b { L with KH := KH } { w with kd := kd } = wE b L w := by
 unfold wE WL.c; dsimp only; rw [h]
theorem atR_ok {w : WS} {L : WL} {W : World} (hw : WOk W w L) {z : S} {p : P2} {d : Nat} {kd' : List KdcS} (h : atR w.T w.kd z p d = some kd') (b : Nat) :
  okP p ∧ ∃ q : Nat, (∀ l, (∀ e ∈ wE b L w :: L.H, e ∈ l) → Tr Pg 42 #[ptr b, sv z] W l fun v l' => v = ptr q ∧ l' = l) ∧
   ∀ (pre r l : List Ent), l = pre ++ wAll b L w r → Tr Pg 38 #[ptr q, pv p, .agg (ck (kf (K d))).toArray] W l fun v l' => v = .tuple #[iv 1, iv 0] ∧ ∃ KH, WOk W { w with kd := kd' } { L with KH := KH } ∧ l' = pre ++ wAll b { L with KH := KH } { w with kd := kd' } r := by
 obtain ⟨j, k, h1, h2, h3, h4, h5, rfl⟩ := atR_spec h
 obtain ⟨q, KA, KB, HK, hq, hKH, hadd⟩ := ringAdd_ok hw h2 h4 h5 h3 d
 refine ⟨h4, q.1, fun l hl => ringW_ok h1 hw hq (hl _ (List.mem_cons_self ..)) (fun e he => hl e (by simp [WL.H, he])) (fun e he => hl e (by simp [WL.H, he])), fun pre r l hl => ?_⟩
 subst hl
 rw [← ck_eq (K_len d)]
 refine Tr.perm (l' := HK ++ (pre ++ (wE b L w :: mE L w :: spE L.sb L.sm :: (L.TH ++ (L.rl ++ (L.kl ++ (KA ++ (KB ++ (L.cl ++ (L.CH ++ (L.sl ++ (L.al ++ (L.AH ++ (L.NH ++ (L.acl ++ (L.AccH ++ (L.isl ++ r))))))))))))))))) (by unfold wAll WL.H; rw [hKH]; exact prm_) ?_
 refine Tr.out (hadd _) ?_
 rintro v l' ⟨rfl, HK', hw', hp⟩
 refine ⟨_, Imp.perm (hp.trans ?_), rfl, _, hw', rfl⟩
 have he := al_kd (b := b) (L := L) (w := w) (kd := w.kd.set j ⟨k.r, k.n, k.iss, k.its ++ [⟨p, 1, d⟩]⟩) (List.length_set ..) (KA ++ (HK' ++ KB))
 unfold wAll WL.H
 rw [he]
 show List.Perm _ (pre ++ (wE b L w :: mE L w :: spE L.sb L.sm :: ((L.TH ++ (L.rl ++ (L.kl ++ ((KA ++ (HK' ++ KB)) ++ (L.cl ++ (L.CH ++ (L.sl ++ (L.al ++ (L.AH ++ (L.NH ++ (L.acl ++ (L.AccH ++ L.isl)))))))))))) ++ r)))
 exact prm_
theorem realm_at {w : WS} {L : WL} {W : World} (hw : WOk W w L) {g o i : Nat} {z : S} (h1 : L.t1A = some ⟨g, o, none⟩) (hi : w.T.rs[i]? = some z) {l : List Ent} (hl : ∀ e ∈ L.TH, e ∈ l) : ∀ ww, SH W l ww → ww.cell? ⟨g, o + i * 1, none⟩ = some (sv z) := by
 have hi0 := (List.getElem?_eq_some_iff.1 hi).1
 obtain ⟨A1, c1, A2, c2, A3, c3, xs, hvs, -, hr1, -⟩ := id hw.t
 have e1 : L.t1A = A1 := by injection hvs with e _; injection e
 rw [← e1, h1] at hr1
 obtain ⟨x1, x2, hx, hcs⟩ := hr1.1.at_ (by rw [List.length_map]; omega)
 cases hx
 intro ww hww
 rw [Nat.mul_one]
 exact hcs l hl ww hww i _ (by rw [List.getElem?_map, hi]; rfl)
theorem src2_at {W : World} {r : List Ent} {A : Option Addr} {xs : List P2} {i : Nat} {z : P2} (h : Src W r A (xs.flatMap enc2)) (hi : xs[i]? = some z) : ∃ g o, A = some ⟨g, o, none⟩ ∧ ∀ l : List Ent, (∀ e ∈ r, e ∈ l) → ∀ ww, SH W l ww → ∀ j u, (enc2 z)[j]? = some u → ww.cell? ⟨g, o + i * 2 + j, none⟩ = some u := by
 have hi0 := (List.getElem?_eq_some_iff.1 hi).1
 obtain ⟨x1, x2, hx, hcs⟩ := h.at_ (by rw [row_len enc2 enc2_len]; omega)
 refine ⟨x1, x2, hx, fun l hl ww hww j u hu => ?_⟩
 have hj : j < 2 := by have := (List.getElem?_eq_some_iff.1 hu).1; rwa [enc2_len] at this
 have := hcs l hl ww hww (i * 2 + j) u (by rw [row_at enc2 enc2_len _ hi hj]; exact hu)
 rwa [← Nat.add_assoc] at this
theorem link_at {w : WS} {L : WL} {W : World} (hw : WOk W w L) {A : Option Addr} {c n i : Nat} {z : P2} (h2 : L.t2 = .slice A n c) (hi : w.T.ls[i]? = some z) : ∃ g o, A = some ⟨g, o, none⟩ ∧ ∀ l : List Ent, (∀ e ∈ L.TH, e ∈ l) → ∀ ww, SH W l ww → ∀ j u, (enc2 z)[j]? = some u → ww.cell? ⟨g, o + i * 2 + j, none⟩ = some u := by
 obtain ⟨A1, c1, A2, c2, A3, c3, xs, hvs, -, -, hr1, -⟩ := id hw.t
 have e1 : L.t2 = .slice A2 w.T.ls.length c2 := by injection hvs with _ e; injection e
 rw [h2] at e1
 have e2 : A = A2 := by injection e1
 subst e2
 exact src2_at hr1.1 hi
theorem al_mem {b : Nat} {L : WL} {w : WS} {r : List Ent} : ∀ e ∈ wE b L w :: L.H, e ∈ wAll b L w r := fun e he => by
 unfold wAll
 rcases List.mem_cons.1 he with h | h
 ·rw [h]; exact List.mem_cons_self ..
 ·simp [h]
theorem al_top {b : Nat} {L : WL} {w : WS} {r : List Ent} : ∀ e ∈ L.TH, e ∈ wAll b L w r := fun e he => al_mem e (by simp [WL.H, he])
theorem al_rest {b : Nat} {L : WL} {w : WS} {r : List Ent} : ∀ e ∈ r, e ∈ wAll b L w r := fun e he => by simp [wAll, he]
theorem drop_at {α : Type} {l : List α} {i : Nat} {x : α} (h : l[i]? = some x) : l.drop i = x :: l.drop (i + 1) := by
 obtain ⟨h1, h2⟩ := List.getElem?_eq_some_iff.1 h
 rw [List.drop_eq_getElem_cons h1, h2]
theorem CNew2_ok {p : P2} (h : isUserB p = true) {k : Nat} {W : World} {r : List Ent} : Tr Pg 43 #[pv p, .agg (ck (kf (K k))).toArray] W r fun v l' => ∃ b H, v = .tuple #[ptr b, iv 0] ∧ ClB W b (newC p k) H ∧ l' = H ++ r := by
 rw [← ck_eq (K_len k)]
 exact CNew_ok h
theorem Add2_ok {rb : Nat} {H : List Ent} {W : World} (hB : RingB rb [] H) {p : P2} (hp : okP p) (k : Nat) (pre : List Ent) {l r : List Ent} (hl : l = pre ++ (H ++ r)) :
  Tr Pg 38 #[ptr rb, pv p, .agg (ck (kf (K k))).toArray] W l fun v l' => v = .tuple #[iv 1, iv 0] ∧ ∃ xb kb H', RingB rb [⟨⟨p, 1, k⟩, xb, kb⟩] H' ∧ l' = pre ++ (H' ++ r) := by
 subst hl
 rw [← ck_eq (K_len k)]
 refine Tr.perm (perm_mid pre H r) (Tr.out (Add_ok hB hp (Nat.succ_pos _) rfl k) ?_)
 rintro v l' ⟨rfl, xb, kb, H', h, rfl⟩
 exact ⟨_, Imp.perm (perm_mid pre H' r).symm, rfl, xb, kb, H', h, rfl⟩
end Go.Proofs.YtbalcgjphkdecaaGreatDoor.To
