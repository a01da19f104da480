/- What the law of the whole stands on, part 6 of 6: the heap as it lies, and a contract for each function that the law reaches. -/

import Derived.Test.YtbalcgjphkdecaaGreatDoorK5
set_option linter.unusedVariables false
set_option linter.unusedSimpArgs false
set_option maxHeartbeats 8000000
namespace Go.Proofs.YtbalcgjphkdecaaGreatDoor.To
open Go.RowKit Go.Lg
set_option maxRecDepth 100000
theorem initM_spec {T : Topo} {cs ss : List P2} {w : WS} (h : initM T cs ss = some w) : topoOk T = true ∧ cs.length ≤ 3 ∧ ss.length ≤ 3 ∧ (∀ p ∈ cs ++ ss, isUserB p = true ∧ p.1 ∈ T.rs) ∧ (cs ++ ss).Nodup ∧ (∀ r ∈ T.rs, r.length ≤ 1000) ∧ (∀ l ∈ T.ls, l.2.length ≤ 1000) ∧
  ∃ kd0 kd1 kd2 kd3, realmsM T T.rs 0 = some kd0 ∧ linksM T T.ls kd0 T.rs.length = some kd1 ∧ usersM T cs kd1 (T.rs.length + T.ls.length) = some kd2 ∧ usersM T ss kd2 (T.rs.length + T.ls.length + cs.length) = some kd3 ∧
   w = ⟨T, kd3, (cs.zipIdx (T.rs.length + T.ls.length)).map fun x => newC x.1 x.2, ss, (ss.zipIdx (T.rs.length + T.ls.length + cs.length)).map fun x => ⟨x.1, x.2, []⟩, [], 0, [], T.rs.length + T.ls.length + cs.length + ss.length, [], 0⟩ := by
 unfold initM at h
 split at h
 case isFalse => cases h
 rename_i hc
 simp only [Bool.and_eq_true, decide_eq_true_eq, List.all_eq_true] at hc
 obtain ⟨⟨⟨⟨⟨⟨c1, c2⟩, c3⟩, c4⟩, c5⟩, c6⟩, c7⟩ := hc
 split at h
 case h_2 => cases h
 rename_i kd0 h0
 split at h
 case h_2 => cases h
 rename_i kd1 h1
 split at h
 case h_2 => cases h
 rename_i kd2 h2
 split at h
 case h_2 => cases h
 rename_i kd3 h3
 cases h
 exact ⟨c1, c2, c3, c4, c5, c6, c7, kd0, kd1, kd2, kd3, h0, h1, h2, h3, rfl⟩
attribute [local irreducible] JC JL JD RN RT Eff Yld YldIf Tr partsL okR splitL wordB joinD fit betweenS laidS viaS De.wrapB De.num De.clampI K Se.sealB Pa.byts Au.byts RP.byts Mg.byts Se.inc tillM Sp.kst
theorem WNew_ok {T : Topo} {cs ss : List P2} {w0 : WS} (h : initM T cs ss = some w0) {s1 s2 s3 : Value} {Ac As : Option Addr} {nc_ ns_ : Nat} {W : World} {r : List Ent} (hT : TopoV W r [s1, s2, s3] T) (hcs : SlV W r Ac cs.length nc_ (cs.flatMap enc2)) (hss : SlV W r As ss.length ns_ (ss.flatMap enc2)) :
  Tr Pg 12 #[.agg #[s1, s2, s3], .slice Ac cs.length nc_, .slice As ss.length ns_] W r fun v l' => ∃ b H, v = .tuple #[ptr b, iv 0] ∧ WorldB W b w0 H ∧ l' = H ++ r := by
 obtain ⟨hok, k2, k3, k4, k5, k6, k7, kd0, kd1, kd2, kd3, m0, m1, m2, m3, rfl⟩ := initM_spec h
 obtain ⟨t1, t2, t3, t4⟩ := topo_le hok
 obtain ⟨A1, c1, A2, c2, A3, c3, xs, hvs, -, hr1, -⟩ := id hT
 obtain rfl : s1 = .slice A1 T.rs.length c1 := by injection hvs
 refine Tr.of_code (args := [_, _, _]) Tryz.func12 rfl Tryz.ntmps12 lE_ ?_
 refine AU0 ?_
 refine JLs (e_box (cs := [.slice A1 T.rs.length c1, s2, s3]) rfl rfl fun b3 => ?_)
 refine AU0 ?_
 have hfl : [cs, ss].flatten = cs ++ ss := by simp
 have hfl2 : (cs ++ ss).length ≤ 6 := by rw [List.length_append]; omega
 have hrow : ∀ l', (∀ e ∈ r, e ∈ l') → ∀ (i : Nat) (xs : List P2), [cs, ss][i]? = some xs → ∃ Ai ci, [Value.slice Ac cs.length nc_, Value.slice As ss.length ns_][i]? = some (Value.slice Ai (List.length xs) ci) ∧ Src W l' Ai (xs.flatMap enc2) := by
  intro l' hl' i xs hx
  match i, hx with
  | 0, hx => cases hx; exact ⟨_, _, rfl, hcs.1.mono hl'⟩
  | 1, hx => cases hx; exact ⟨_, _, rfl, hss.1.mono hl'⟩
  | i + 2, hx => simp at hx
 refine JC.drawn 22 rfl mixed ?_
 refine JDr 0 0 rfl rfl (r_loadA rfl lE_ rfl) ?_
 refine JDe 1 rfl (e_call rfl rfl (RIs_yes (hT.mono fun e he => by simp [he]) hok) ?_)
 rintro v l' ⟨rfl, rfl⟩
 refine ⟨tok_, ?_⟩
 refine JDp 2 rfl (y_not rfl) ?_
 refine JDp 3 rfl y_mv ?_
 refine JDp 4 rfl y_mv ?_
 refine JDp 5 rfl (y_len rfl) ?_
 refine JDp 6 rfl (y_gtr rfl rfl (decide_eq_false (by omega))) ?_
 refine JDp 7 rfl (y_pick_f rfl (by conv => lhs; whnf)) ?_
 refine JDp 8 rfl y_mv ?_
 refine JDp 9 rfl y_mv ?_
 refine JDp 10 rfl (y_len rfl) ?_
 refine JDp 11 rfl (y_gtr rfl rfl (decide_eq_false (by omega))) ?_
 refine JDp 12 rfl (y_pick_f rfl (by conv => lhs; whnf)) ?_
 refine JDp 13 rfl y_mv ?_
 refine JDr 14 0 rfl rfl (r_loadA rfl lE_ rfl) ?_
 refine JDp 15 rfl y_mv ?_
 refine JDp 16 rfl y_mv ?_
 refine JDe 17 rfl (e_buildSlice (cells := [.slice Ac cs.length nc_, .slice As ss.length ns_]) [.slice Ac cs.length nc_, .slice As ss.length ns_] rfl lE_ rfl (fun u hu => by simp only [List.mem_cons, List.not_mem_nil, or_false] at hu; rcases hu with rfl | rfl <;> rfl) rfl fun b5 => ⟨tok_, ?_⟩)
 refine JDe 18 rfl (e_call rfl rfl (ConcatP_ok (bss := [cs, ss]) rfl (by unfold maxLen; decide) (hds := [.slice Ac cs.length nc_, .slice As ss.length ns_]) (Src.whole (List.mem_cons_self ..)) rfl (hrow _ fun e he => by simp [he]) (by rw [hfl]; omega)) ?_)
 rintro v l' ⟨le, ho, rfl⟩
 rw [hfl] at ho
 obtain ⟨lA, lc, rfl, hl⟩ := SlV.own (W := W) ho
 refine ⟨tok_, ?_⟩
 refine JDe 19 rfl (e_call rfl rfl (areUsers_yes hok (xs := cs ++ ss) rfl (by omega) k4 k5 (hT.mono fun e he => by simp [he]) (hl.mono fun e he => by simp [he])) ?_)
 rintro v l' ⟨rfl, rfl⟩
 refine ⟨tok_, ?_⟩
 refine JDp 20 rfl (y_not rfl) ?_
 refine JDp 21 rfl (y_pick_f rfl (by conv => lhs; whnf)) ?_
 refine JDd ?_
 refine RN.sub (l' := (b3, isC 43 [.slice A1 T.rs.length c1, s2, s3]) :: r) ((List.sublist_cons_self _ _).trans (List.sublist_append_right le _)) ?_
 refine AU1 ?_
 refine JLs (e_call rfl rfl (copiedW_ok (hT.mono fun e he => by simp [he]) (by omega) (by omega) (by omega) fun p hp => by have := t4 p hp; omega) ?_)
 rintro v l' ⟨u1, u2, u3, TH, rfl, hT2, rfl⟩
 refine AU0 ?_
 refine JLs (e_call rfl rfl (Ne.New_ok W _) ?_)
 rintro v l' ⟨nb, rfl, NH, hN, rfl⟩
 refine AU0 ?_
 refine JLs (e_makeI fun mb => ?_)
 refine JLp (y_build (cells := ((List.replicate 16 (0 : UInt8)).map bv).toArray) (by kernel_rfl)) ?_
 refine JLs (e_call rfl rfl (Sp.New_ok (ks := List.replicate 16 0) rfl) ?_)
 rintro v l' ⟨sb, rfl, rfl⟩
 refine JLs (e_makeMap fun ob => ?_)
 refine AU0 ?_
 refine JLs (e_call rfl rfl (CloneP_ok (row_len enc2 enc2_len ss) (by omega) (enc2_one _) (hss.1.mono fun e he => by simp [he]) hss.2.2) ?_)
 rintro v l' ⟨sl, hso, rfl⟩
 obtain ⟨sA, sc, rfl, hsl⟩ := SlV.own (W := W) hso
 obtain ⟨B1, d1, B2, d2, B4, d4, ys, hvs2, -, hB1, -⟩ := id hT2
 obtain rfl : u1 = .slice B1 T.rs.length d1 := by injection hvs2
 obtain rfl : u2 = .slice B2 T.ls.length d2 := by injection hvs2 with _ e; injection e
 obtain ⟨gb, go, rfl, -⟩ := hB1.1.at_ (by rw [List.length_map]; exact (topoOk_spec hok).1)
 refine AU0 ?_
 refine JLp (y_build (cells := (WL.c (⟨some ⟨gb, go, none⟩, d1, .slice B2 T.ls.length d2, u3, TH, none, 0, [], none, 0, [], [], [], none, 0, [], [], [], sA, sc, sl, none, 0, [], [], [], nb, NH, [], mb, sb, false, none, 0, [], [], [], none, 0, [], [], ob⟩ : WL) (⟨T, [], [], ss, [], [], 0, [], 0, [], 0⟩ : WS)).toArray) (by kernel_rfl)) ?_
 refine JLs (e_box (cs := WL.c (⟨some ⟨gb, go, none⟩, d1, .slice B2 T.ls.length d2, u3, TH, none, 0, [], none, 0, [], [], [], none, 0, [], [], [], sA, sc, sl, none, 0, [], [], [], nb, NH, [], mb, sb, false, none, 0, [], [], [], none, 0, [], [], ob⟩ : WL) (⟨T, [], [], ss, [], [], 0, [], 0, [], 0⟩ : WS)) rfl rfl fun b => ?_)
 have hw : WOk W (⟨T, [], [], ss, [], [], 0, [], 0, [], 0⟩ : WS) (⟨some ⟨gb, go, none⟩, d1, .slice B2 T.ls.length d2, u3, TH, none, 0, [], none, 0, [], [], [], none, 0, [], [], [], sA, sc, sl, none, 0, [], [], [], nb, NH, [], mb, sb, false, none, 0, [], [], [], none, 0, [], [], ob⟩ : WL) := { tt := hok, t := hT2, r := Lg.Own.nil .., k := Lg.Own.nil .., kh := rfl, c := Lg.Own.nil .., ch := rfl, s := hso, a := Lg.Own.nil .., ah := rfl, n := hN, ns := rfl, sn := Nat.zero_le _, kn := Nat.zero_le _, kr := Nat.zero_le _, cn := Nat.zero_le _, an := Nat.zero_le _, svn := k3, acn := Nat.zero_le _, isn := Nat.zero_le _, ac := Lg.Own.nil .., acs := rfl, acv := (fun y hy => by cases hy), is_ := Lg.Own.nil .. }
 refine JL.perm (l' := (ob, isMp ⟨[], 0⟩) :: (b3, isC 43 [.slice A1 T.rs.length c1, s2, s3]) :: (wE b (⟨some ⟨gb, go, none⟩, d1, .slice B2 T.ls.length d2, u3, TH, none, 0, [], none, 0, [], [], [], none, 0, [], [], [], sA, sc, sl, none, 0, [], [], [], nb, NH, [], mb, sb, false, none, 0, [], [], [], none, 0, [], [], ob⟩ : WL) (⟨T, [], [], ss, [], [], 0, [], 0, [], 0⟩ : WS) :: mE (⟨some ⟨gb, go, none⟩, d1, .slice B2 T.ls.length d2, u3, TH, none, 0, [], none, 0, [], [], [], none, 0, [], [], [], sA, sc, sl, none, 0, [], [], [], nb, NH, [], mb, sb, false, none, 0, [], [], [], none, 0, [], [], ob⟩ : WL) (⟨T, [], [], ss, [], [], 0, [], 0, [], 0⟩ : WS) :: spE sb false :: (TH ++ (sl ++ (NH ++ r))))) (by unfold wE mE spE; exact prm_) ?_
 refine JL.sub (l' := wE b (⟨some ⟨gb, go, none⟩, d1, .slice B2 T.ls.length d2, u3, TH, none, 0, [], none, 0, [], [], [], none, 0, [], [], [], sA, sc, sl, none, 0, [], [], [], nb, NH, [], mb, sb, false, none, 0, [], [], [], none, 0, [], [], ob⟩ : WL) (⟨T, [], [], ss, [], [], 0, [], 0, [], 0⟩ : WS) :: mE (⟨some ⟨gb, go, none⟩, d1, .slice B2 T.ls.length d2, u3, TH, none, 0, [], none, 0, [], [], [], none, 0, [], [], [], sA, sc, sl, none, 0, [], [], [], nb, NH, [], mb, sb, false, none, 0, [], [], [], none, 0, [], [], ob⟩ : WL) (⟨T, [], [], ss, [], [], 0, [], 0, [], 0⟩ : WS) :: spE sb false :: (TH ++ (sl ++ (NH ++ r)))) (List.sublist_append_right [_, _] _) ?_
 refine JL.cast (l' := wE b (⟨some ⟨gb, go, none⟩, d1, .slice B2 T.ls.length d2, u3, TH, none, 0, [], none, 0, [], [], [], none, 0, [], [], [], sA, sc, sl, none, 0, [], [], [], nb, NH, [], mb, sb, false, none, 0, [], [], [], none, 0, [], [], ob⟩ : WL) (⟨T, [], [], ss, [], [], 0, [], 0, [], 0⟩ : WS) :: mE (⟨some ⟨gb, go, none⟩, d1, .slice B2 T.ls.length d2, u3, TH, none, 0, [], none, 0, [], [], [], none, 0, [], [], [], sA, sc, sl, none, 0, [], [], [], nb, NH, [], mb, sb, false, none, 0, [], [], [], none, 0, [], [], ob⟩ : WL) (⟨T, [], [], ss, [], [], 0, [], 0, [], 0⟩ : WS) :: spE (⟨some ⟨gb, go, none⟩, d1, .slice B2 T.ls.length d2, u3, TH, none, 0, [], none, 0, [], [], [], none, 0, [], [], [], sA, sc, sl, none, 0, [], [], [], nb, NH, [], mb, sb, false, none, 0, [], [], [], none, 0, [], [], ob⟩ : WL).sb (⟨some ⟨gb, go, none⟩, d1, .slice B2 T.ls.length d2, u3, TH, none, 0, [], none, 0, [], [], [], none, 0, [], [], [], sA, sc, sl, none, 0, [], [], [], nb, NH, [], mb, sb, false, none, 0, [], [], [], none, 0, [], [], ob⟩ : WL).sm :: ((⟨some ⟨gb, go, none⟩, d1, .slice B2 T.ls.length d2, u3, TH, none, 0, [], none, 0, [], [], [], none, 0, [], [], [], sA, sc, sl, none, 0, [], [], [], nb, NH, [], mb, sb, false, none, 0, [], [], [], none, 0, [], [], ob⟩ : WL).H ++ r)) (by simp only [WL.H, List.nil_append, List.append_nil, List.append_assoc]) ?_
 unfold wE
 refine AU1 ?_
 refine JC.loop (fun m f l => ∃ (i : Nat) (L : WL), i + m = T.rs.length ∧ FrOk f [(1, .slice Ac cs.length nc_), (2, .slice As ss.length ns_), (8, ptr b), (66, .slice (some ⟨gb, go, none⟩) T.rs.length d1), (67, iv (T.rs.length : Int)), (68, iv (i : Int))] ∧ (L.t1A = some ⟨gb, go, none⟩ ∧ L.t2 = .slice B2 T.ls.length d2) ∧ WOk W (⟨T, kd0.take i, [], ss, [], [], 0, [], i, [], 0⟩ : WS) L ∧ l = wAll b L (⟨T, kd0.take i, [], ss, [], [], 0, [], i, [], 0⟩ : WS) r) T.rs.length ?_ ?_
 ·exact ⟨0, (⟨some ⟨gb, go, none⟩, d1, .slice B2 T.ls.length d2, u3, TH, none, 0, [], none, 0, [], [], [], none, 0, [], [], [], sA, sc, sl, none, 0, [], [], [], nb, NH, [], mb, sb, false, none, 0, [], [], [], none, 0, [], [], ob⟩ : WL), by omega, ⟨rfl, rfl, rfl, rfl, rfl, rfl, trivial⟩, ⟨rfl, rfl⟩, hw, rfl⟩
 clear hw hT2 hso hsl hN hfl hfl2 hrow
 rintro m f l ⟨i, L, hm, hf, ⟨hLA, hL2⟩, hw, rfl⟩
 refine JC.frame _ hf fun f' => ?_
 obtain ⟨q1, q2⟩ := realmsM_at m0
 by_cases hi : i < T.rs.length
 ·have hR := List.getElem?_eq_getElem hi
  obtain ⟨hp, hk⟩ := q2 i _ hR
  rw [Nat.zero_add] at hk
  have hR6 := k6 _ (List.getElem_mem hi)
  have hin := List.getElem_mem hi
  have hli : (kd0.take i).length = i := by rw [List.length_take]; omega
  refine AU0 ?_
  refine JLs (e_loadS rfl (realm_at hw hLA hR al_top) ?_)
  refine AU0 ?_
  refine JLs (e_call rfl rfl RNew_ok ?_)
  rintro v l' ⟨rb, RH, rfl, hRB, rfl⟩
  refine AU0 ?_
  refine JLs (e_call rfl rfl (Krbtgt_ok hR6) ?_)
  rintro v l' ⟨rfl, rfl⟩
  repeat (first | refine JLp (y_build (cells := #[sv (T.rs[i]'hi), sv (grantS ++ (T.rs[i]'hi))]) (by kernel_rfl)) ?_ | refine AS0 ?_)
  refine JLs (e_call rfl rfl (draw_p RH rfl (by show i ≤ _; omega)) ?_)
  rintro v l' ⟨rfl, rfl⟩
  refine JL.cast (l' := RH ++ wAll b ({ L with sm := true } : WL) (⟨T, kd0.take i, [], ss, [], [], 0, [], i + 1, [], 0⟩ : WS) r) rfl ?_
  refine AU0 ?_
  refine JLs (e_call rfl rfl (Add2_ok hRB hp i [] rfl) ?_)
  rintro v l' ⟨rfl, xb, kb, RH', hR', rfl⟩
  have hw1 : WOk W (⟨T, kd0.take i, [], ss, [], [], 0, [], i + 1, [], 0⟩ : WS) ({ L with sm := true } : WL) := { hw with tt := hw.tt }
  refine JL.cast (l' := RH' ++ ((b, isC 81 (WL.c ({ L with sm := true } : WL) (⟨T, kd0.take i, [], ss, [], [], 0, [], i + 1, [], 0⟩ : WS))) :: mE L (⟨T, kd0.take i, [], ss, [], [], 0, [], i + 1, [], 0⟩ : WS) :: spE L.sb true :: (L.H ++ r))) rfl ?_
  refine JL.perm (l' := (b, isC 81 (WL.c ({ L with sm := true } : WL) (⟨T, kd0.take i, [], ss, [], [], 0, [], i + 1, [], 0⟩ : WS))) :: (RH' ++ (mE L (⟨T, kd0.take i, [], ss, [], [], 0, [], i + 1, [], 0⟩ : WS) :: spE L.sb true :: (L.H ++ r)))) prm_ ?_
  refine AU1 ?_
  refine JLs (e_call rfl rfl (KNew_ok hok hin (hw1.t.mono fun e he => by simp [WL.H, he]) [⟨((T.rs[i]'hi), grantS ++ (T.rs[i]'hi)), 1, i⟩]) ?_)
  rintro v l' ⟨kb2, u1, u2, u3, TH2, rfl, hT3, rfl⟩
  refine AU0 ?_
  refine JC.perm (l' := (b, isC 81 (WL.c ({ L with sm := true } : WL) (⟨T, kd0.take i, [], ss, [], [], 0, [], i + 1, [], 0⟩ : WS))) :: (L.rl ++ (L.kl ++ (kdcE kb2 rb u1 u2 u3 (⟨(T.rs[i]'hi), 0, 0, [⟨((T.rs[i]'hi), grantS ++ (T.rs[i]'hi)), 1, i⟩]⟩ : KdcS) :: (TH2 ++ (RH' ++ (mE L (⟨T, kd0.take i, [], ss, [], [], 0, [], i + 1, [], 0⟩ : WS) :: spE L.sb true :: (L.TH ++ (L.KH ++ (L.cl ++ (L.CH ++ (L.sl ++ (L.al ++ (L.AH ++ (L.NH ++ (L.acl ++ (L.AccH ++ (L.isl ++ r)))))))))))))))))) (by unfold WL.H; exact prm_) ?_
  have hwr : Lg.Own 100 1 (.slice L.rA (kd0.take i).length L.rc) (kd0.take i).length (L.kid.map fun q => ptr q.1) L.rl := hw.r
  have hwk : Lg.Own 106 1 (.slice L.kA (kd0.take i).length L.kc) (kd0.take i).length (L.kid.map fun q => ptr q.2) L.kl := hw.k
  refine JC.cut (fun f l' => ∃ g c la g' c' lb, FrOk f [(1, .slice Ac cs.length nc_), (2, .slice As ss.length ns_), (8, ptr b), (66, .slice (some ⟨gb, go, none⟩) T.rs.length d1), (67, iv (T.rs.length : Int)), (68, iv (i : Int))] ∧ Lg.Own 100 1 (.slice (some ⟨g, 0, none⟩) ((kd0.take i).length + 1) c) ((kd0.take i).length + 1) (L.kid.map (fun q => ptr q.1) ++ [ptr rb]) la ∧ Lg.Own 106 1 (.slice (some ⟨g', 0, none⟩) ((kd0.take i).length + 1) c') ((kd0.take i).length + 1) (L.kid.map (fun q => ptr q.2) ++ [ptr kb2]) lb ∧ l' = (b, isC 81 [.slice L.t1A T.rs.length L.t1c, L.t2, L.t3, .slice (some ⟨g, 0, none⟩) ((kd0.take i).length + 1) c, .slice (some ⟨g', 0, none⟩) ((kd0.take i).length + 1) c', .slice L.cA 0 L.cc, .slice L.sA ss.length L.sc, .slice L.aA 0 L.ac, ptr L.nb, .map (some L.mb), iv ((i + 1 : Nat) : Int), ptr L.sb, .slice L.acA 0 L.acc, .slice L.isA 0 L.isc, nl, .map (some L.ob)]) :: (la ++ (lb ++ (kdcE kb2 rb u1 u2 u3 (⟨(T.rs[i]'hi), 0, 0, [⟨((T.rs[i]'hi), grantS ++ (T.rs[i]'hi)), 1, i⟩]⟩ : KdcS) :: (TH2 ++ (RH' ++ (mE L (⟨T, kd0.take i, [], ss, [], [], 0, [], i + 1, [], 0⟩ : WS) :: spE L.sb true :: (L.TH ++ (L.KH ++ (L.cl ++ (L.CH ++ (L.sl ++ (L.al ++ (L.AH ++ (L.NH ++ (L.acl ++ (L.AccH ++ (L.isl ++ r)))))))))))))))))) ?_ fun K' hT9 => ?_
  rotate_left
  refine JC.drawn 22 rfl mixed ?_
  refine JDp 0 rfl y_mv ?_
  refine JDp 1 rfl y_mv ?_
  refine JDp 2 rfl y_mv ?_
  refine JDp 3 rfl (y_nilCheck rfl) ?_
  refine JDp 4 rfl (y_fieldAddr rfl) ?_
  refine JDr 5 0 rfl rfl (r_load1 rfl rfl) ?_
  refine JDp 6 rfl y_mv ?_
  refine JDp 9 rfl y_mv ?_
  refine JDp 10 rfl (y_nilCheck rfl) ?_
  refine JDp 11 rfl (y_fieldAddr rfl) ?_
  refine JDr 12 0 rfl rfl (r_load1 rfl rfl) ?_
  refine JDp 13 rfl y_mv ?_
  refine JD.eff2 7 14 (by kernel_rfl) rfl rfl rfl rfl (e_buildSlice (cells := [ptr rb]) [ptr rb] rfl lE_ rfl (fun u hu => by cases List.mem_singleton.1 hu; rfl) rfl fun b7 => ⟨tok_, ?_⟩) (e_buildSlice (cells := [ptr kb2]) [ptr kb2] rfl lE_ rfl (fun u hu => by cases List.mem_singleton.1 hu; rfl) rfl fun b14 => ⟨tok_, ?_⟩)
  ·refine JD.eff2 8 14 (by kernel_rfl) rfl rfl rfl rfl (e_appendP [_, _] L.rl rfl rfl hwr rfl (news := [ptr rb]) rfl (Src.whole (by first | exact List.mem_cons_self .. | exact List.mem_cons_of_mem _ (List.mem_cons_self ..))) (fun u hu => by cases List.mem_singleton.1 hu; rfl) (by omega) (by unfold maxLen; omega) fun v' la ho1 _ => ⟨tok_, ?_⟩) (e_buildSlice (cells := [ptr kb2]) [ptr kb2] rfl lE_ rfl (fun u hu => by cases List.mem_singleton.1 hu; rfl) rfl fun b14 => ⟨tok_, ?_⟩)
   ·obtain ⟨g, c, rfl, -, -, -⟩ := De.own_some (id ho1) (Nat.succ_pos _)
    refine JDe 14 rfl (e_buildSlice (cells := [ptr kb2]) [ptr kb2] rfl lE_ rfl (fun u hu => by cases List.mem_singleton.1 hu; rfl) rfl fun b14 => ⟨tok_, ?_⟩)
    refine JDe 15 rfl (e_appendP (_ :: _ :: _ :: la) L.kl rfl rfl hwk rfl (news := [ptr kb2]) rfl (Src.whole (by first | exact List.mem_cons_self .. | exact List.mem_cons_of_mem _ (List.mem_cons_self ..))) (fun u hu => by cases List.mem_singleton.1 hu; rfl) (by omega) (by unfold maxLen; omega) fun v' lb ho2 _ => ⟨tok_, ?_⟩)
    obtain ⟨g', c', rfl, -, -, -⟩ := De.own_some (id ho2) (Nat.succ_pos _)
    refine JDp 16 rfl (y_nilCheck rfl) ?_
    refine JDp 17 rfl (y_fieldAddr rfl) ?_
    refine JDe 18 rfl (e_store 2 rfl rfl rfl (vs := [.slice (some ⟨g, 0, none⟩) ((kd0.take i).length + 1) c]) rfl rfl rfl lE_ ⟨tok_, ?_⟩)
    refine JDp 19 rfl (y_nilCheck rfl) ?_
    refine JDp 20 rfl (y_fieldAddr rfl) ?_
    refine JDe 21 rfl (e_store 2 rfl rfl rfl (vs := [.slice (some ⟨g', 0, none⟩) ((kd0.take i).length + 1) c']) rfl rfl rfl lE_ ⟨tok_, ?_⟩)
    refine JDd ?_
    refine RN.cast (l' := _ :: _ :: (b, isC 81 [.slice L.t1A T.rs.length L.t1c, L.t2, L.t3, .slice (some ⟨g, 0, none⟩) ((kd0.take i).length + 1) c, .slice (some ⟨g', 0, none⟩) ((kd0.take i).length + 1) c', .slice L.cA 0 L.cc, .slice L.sA ss.length L.sc, .slice L.aA 0 L.ac, ptr L.nb, .map (some L.mb), iv ((i + 1 : Nat) : Int), ptr L.sb, .slice L.acA 0 L.acc, .slice L.isA 0 L.isc, nl, .map (some L.ob)]) :: (la ++ (lb ++ (kdcE kb2 rb u1 u2 u3 (⟨(T.rs[i]'hi), 0, 0, [⟨((T.rs[i]'hi), grantS ++ (T.rs[i]'hi)), 1, i⟩]⟩ : KdcS) :: (TH2 ++ (RH' ++ (mE L (⟨T, kd0.take i, [], ss, [], [], 0, [], i + 1, [], 0⟩ : WS) :: spE L.sb true :: (L.TH ++ (L.KH ++ (L.cl ++ (L.CH ++ (L.sl ++ (L.al ++ (L.AH ++ (L.NH ++ (L.acl ++ (L.AccH ++ (L.isl ++ r)))))))))))))))))) rfl ?_
    refine RN.sub (List.sublist_append_right [_, _] _) ?_
    exact hT9 _ _ ⟨g, c, la, g', c', lb, ⟨rfl, rfl, rfl, rfl, rfl, rfl, trivial⟩, ho1, ho2, rfl⟩
   ·refine JDe 8 rfl (e_appendP [_, _, _] L.rl rfl rfl hwr rfl (news := [ptr rb]) rfl (Src.whole (by first | exact List.mem_cons_self .. | exact List.mem_cons_of_mem _ (List.mem_cons_self ..))) (fun u hu => by cases List.mem_singleton.1 hu; rfl) (by omega) (by unfold maxLen; omega) fun v' la ho1 _ => ⟨tok_, ?_⟩)
    obtain ⟨g, c, rfl, -, -, -⟩ := De.own_some (id ho1) (Nat.succ_pos _)
    refine JDe 15 rfl (e_appendP (_ :: _ :: _ :: la) L.kl rfl rfl hwk rfl (news := [ptr kb2]) rfl (Src.whole (by first | exact List.mem_cons_self .. | exact List.mem_cons_of_mem _ (List.mem_cons_self ..))) (fun u hu => by cases List.mem_singleton.1 hu; rfl) (by omega) (by unfold maxLen; omega) fun v' lb ho2 _ => ⟨tok_, ?_⟩)
    obtain ⟨g', c', rfl, -, -, -⟩ := De.own_some (id ho2) (Nat.succ_pos _)
    refine JDp 16 rfl (y_nilCheck rfl) ?_
    refine JDp 17 rfl (y_fieldAddr rfl) ?_
    refine JDe 18 rfl (e_store 2 rfl rfl rfl (vs := [.slice (some ⟨g, 0, none⟩) ((kd0.take i).length + 1) c]) rfl rfl rfl lE_ ⟨tok_, ?_⟩)
    refine JDp 19 rfl (y_nilCheck rfl) ?_
    refine JDp 20 rfl (y_fieldAddr rfl) ?_
    refine JDe 21 rfl (e_store 2 rfl rfl rfl (vs := [.slice (some ⟨g', 0, none⟩) ((kd0.take i).length + 1) c']) rfl rfl rfl lE_ ⟨tok_, ?_⟩)
    refine JDd ?_
    refine RN.cast (l' := _ :: _ :: (b, isC 81 [.slice L.t1A T.rs.length L.t1c, L.t2, L.t3, .slice (some ⟨g, 0, none⟩) ((kd0.take i).length + 1) c, .slice (some ⟨g', 0, none⟩) ((kd0.take i).length + 1) c', .slice L.cA 0 L.cc, .slice L.sA ss.length L.sc, .slice L.aA 0 L.ac, ptr L.nb, .map (some L.mb), iv ((i + 1 : Nat) : Int), ptr L.sb, .slice L.acA 0 L.acc, .slice L.isA 0 L.isc, nl, .map (some L.ob)]) :: (la ++ (lb ++ (kdcE kb2 rb u1 u2 u3 (⟨(T.rs[i]'hi), 0, 0, [⟨((T.rs[i]'hi), grantS ++ (T.rs[i]'hi)), 1, i⟩]⟩ : KdcS) :: (TH2 ++ (RH' ++ (mE L (⟨T, kd0.take i, [], ss, [], [], 0, [], i + 1, [], 0⟩ : WS) :: spE L.sb true :: (L.TH ++ (L.KH ++ (L.cl ++ (L.CH ++ (L.sl ++ (L.al ++ (L.AH ++ (L.NH ++ (L.acl ++ (L.AccH ++ (L.isl ++ r)))))))))))))))))) rfl ?_
    refine RN.sub (List.sublist_append_right [_, _] _) ?_
    exact hT9 _ _ ⟨g, c, la, g', c', lb, ⟨rfl, rfl, rfl, rfl, rfl, rfl, trivial⟩, ho1, ho2, rfl⟩
  ·refine JDe 7 rfl (e_buildSlice (cells := [ptr rb]) [ptr rb] rfl lE_ rfl (fun u hu => by cases List.mem_singleton.1 hu; rfl) rfl fun b7 => ⟨tok_, ?_⟩)
   refine JDe 8 rfl (e_appendP [_, _, _] L.rl rfl rfl hwr rfl (news := [ptr rb]) rfl (Src.whole (by first | exact List.mem_cons_self .. | exact List.mem_cons_of_mem _ (List.mem_cons_self ..))) (fun u hu => by cases List.mem_singleton.1 hu; rfl) (by omega) (by unfold maxLen; omega) fun v' la ho1 _ => ⟨tok_, ?_⟩)
   obtain ⟨g, c, rfl, -, -, -⟩ := De.own_some (id ho1) (Nat.succ_pos _)
   refine JDe 15 rfl (e_appendP (_ :: _ :: _ :: la) L.kl rfl rfl hwk rfl (news := [ptr kb2]) rfl (Src.whole (by first | exact List.mem_cons_self .. | exact List.mem_cons_of_mem _ (List.mem_cons_self ..))) (fun u hu => by cases List.mem_singleton.1 hu; rfl) (by omega) (by unfold maxLen; omega) fun v' lb ho2 _ => ⟨tok_, ?_⟩)
   obtain ⟨g', c', rfl, -, -, -⟩ := De.own_some (id ho2) (Nat.succ_pos _)
   refine JDp 16 rfl (y_nilCheck rfl) ?_
   refine JDp 17 rfl (y_fieldAddr rfl) ?_
   refine JDe 18 rfl (e_store 2 rfl rfl rfl (vs := [.slice (some ⟨g, 0, none⟩) ((kd0.take i).length + 1) c]) rfl rfl rfl lE_ ⟨tok_, ?_⟩)
   refine JDp 19 rfl (y_nilCheck rfl) ?_
   refine JDp 20 rfl (y_fieldAddr rfl) ?_
   refine JDe 21 rfl (e_store 2 rfl rfl rfl (vs := [.slice (some ⟨g', 0, none⟩) ((kd0.take i).length + 1) c']) rfl rfl rfl lE_ ⟨tok_, ?_⟩)
   refine JDd ?_
   refine RN.cast (l' := _ :: _ :: (b, isC 81 [.slice L.t1A T.rs.length L.t1c, L.t2, L.t3, .slice (some ⟨g, 0, none⟩) ((kd0.take i).length + 1) c, .slice (some ⟨g', 0, none⟩) ((kd0.take i).length + 1) c', .slice L.cA 0 L.cc, .slice L.sA ss.length L.sc, .slice L.aA 0 L.ac, ptr L.nb, .map (some L.mb), iv ((i + 1 : Nat) : Int), ptr L.sb, .slice L.acA 0 L.acc, .slice L.isA 0 L.isc, nl, .map (some L.ob)]) :: (la ++ (lb ++ (kdcE kb2 rb u1 u2 u3 (⟨(T.rs[i]'hi), 0, 0, [⟨((T.rs[i]'hi), grantS ++ (T.rs[i]'hi)), 1, i⟩]⟩ : KdcS) :: (TH2 ++ (RH' ++ (mE L (⟨T, kd0.take i, [], ss, [], [], 0, [], i + 1, [], 0⟩ : WS) :: spE L.sb true :: (L.TH ++ (L.KH ++ (L.cl ++ (L.CH ++ (L.sl ++ (L.al ++ (L.AH ++ (L.NH ++ (L.acl ++ (L.AccH ++ (L.isl ++ r)))))))))))))))))) rfl ?_
   refine RN.sub (List.sublist_append_right [_, _] _) ?_
   exact hT9 _ _ ⟨g, c, la, g', c', lb, ⟨rfl, rfl, rfl, rfl, rfl, rfl, trivial⟩, ho1, ho2, rfl⟩
  rintro f l' ⟨g, c, la, g', c', lb, hf, ho1, ho2, rfl⟩
  refine RN.frame _ hf fun f' => ?_
  have hw2 : WOk W (⟨T, kd0.take (i + 1), [], ss, [], [], 0, [], i + 1, [], 0⟩ : WS) ({ L with rA := some ⟨g, 0, none⟩, rc := c, rl := la, kA := some ⟨g', 0, none⟩, kc := c', kl := lb, kid := L.kid ++ [(rb, kb2)], KH := L.KH ++ (kdcE kb2 rb u1 u2 u3 (⟨(T.rs[i]'hi), 0, 0, [⟨((T.rs[i]'hi), grantS ++ (T.rs[i]'hi)), 1, i⟩]⟩ : KdcS) :: (RH' ++ TH2)), sm := true } : WL) := by
   rw [take_at hk]
   exact snocK hw (by show (kd0.take i).length < T.rs.length; omega) (q := (rb, kb2)) ⟨u1, u2, u3, RH', TH2, _, hT3, hR', rfl, by show 1 ≤ 1000; omega, rfl⟩ ho1 ho2
  refine RN.perm (l' := wAll b ({ L with rA := some ⟨g, 0, none⟩, rc := c, rl := la, kA := some ⟨g', 0, none⟩, kc := c', kl := lb, kid := L.kid ++ [(rb, kb2)], KH := L.KH ++ (kdcE kb2 rb u1 u2 u3 (⟨(T.rs[i]'hi), 0, 0, [⟨((T.rs[i]'hi), grantS ++ (T.rs[i]'hi)), 1, i⟩]⟩ : KdcS) :: (RH' ++ TH2)), sm := true } : WL) (⟨T, kd0.take (i + 1), [], ss, [], [], 0, [], i + 1, [], 0⟩ : WS) r) ?_ ?_
  ·have he : wE b ({ L with rA := some ⟨g, 0, none⟩, rc := c, rl := la, kA := some ⟨g', 0, none⟩, kc := c', kl := lb, kid := L.kid ++ [(rb, kb2)], KH := L.KH ++ (kdcE kb2 rb u1 u2 u3 (⟨(T.rs[i]'hi), 0, 0, [⟨((T.rs[i]'hi), grantS ++ (T.rs[i]'hi)), 1, i⟩]⟩ : KdcS) :: (RH' ++ TH2)), sm := true } : WL) (⟨T, kd0.take (i + 1), [], ss, [], [], 0, [], i + 1, [], 0⟩ : WS) = (b, isC 81 [.slice L.t1A T.rs.length L.t1c, L.t2, L.t3, .slice (some ⟨g, 0, none⟩) ((kd0.take i).length + 1) c, .slice (some ⟨g', 0, none⟩) ((kd0.take i).length + 1) c', .slice L.cA 0 L.cc, .slice L.sA ss.length L.sc, .slice L.aA 0 L.ac, ptr L.nb, .map (some L.mb), iv ((i + 1 : Nat) : Int), ptr L.sb, .slice L.acA 0 L.acc, .slice L.isA 0 L.isc, nl, .map (some L.ob)]) := by
    unfold wE WL.c; dsimp only; rw [List.length_take, Nat.min_eq_left (by omega), hli]; rfl
   unfold wAll WL.H
   rw [he]
   show List.Perm _ ((b, isC 81 [.slice L.t1A T.rs.length L.t1c, L.t2, L.t3, .slice (some ⟨g, 0, none⟩) ((kd0.take i).length + 1) c, .slice (some ⟨g', 0, none⟩) ((kd0.take i).length + 1) c', .slice L.cA 0 L.cc, .slice L.sA ss.length L.sc, .slice L.aA 0 L.ac, ptr L.nb, .map (some L.mb), iv ((i + 1 : Nat) : Int), ptr L.sb, .slice L.acA 0 L.acc, .slice L.isA 0 L.isc, nl, .map (some L.ob)]) :: mE L (⟨T, kd0.take i, [], ss, [], [], 0, [], i + 1, [], 0⟩ : WS) :: spE L.sb true :: ((L.TH ++ (la ++ (lb ++ ((L.KH ++ (kdcE kb2 rb u1 u2 u3 (⟨(T.rs[i]'hi), 0, 0, [⟨((T.rs[i]'hi), grantS ++ (T.rs[i]'hi)), 1, i⟩]⟩ : KdcS) :: (RH' ++ TH2))) ++ (L.cl ++ (L.CH ++ (L.sl ++ (L.al ++ (L.AH ++ (L.NH ++ (L.acl ++ (L.AccH ++ L.isl)))))))))))) ++ r))
   exact prm_
  refine AU0 ?_
  exact RN.loop (m' := m - 1) (by omega) ⟨i + 1, ({ L with rA := some ⟨g, 0, none⟩, rc := c, rl := la, kA := some ⟨g', 0, none⟩, kc := c', kl := lb, kid := L.kid ++ [(rb, kb2)], KH := L.KH ++ (kdcE kb2 rb u1 u2 u3 (⟨(T.rs[i]'hi), 0, 0, [⟨((T.rs[i]'hi), grantS ++ (T.rs[i]'hi)), 1, i⟩]⟩ : KdcS) :: (RH' ++ TH2)), sm := true } : WL), by omega, ⟨rfl, rfl, rfl, rfl, rfl, rfl, trivial⟩, ⟨hLA, hL2⟩, hw2, rfl⟩
 ·obtain rfl : i = T.rs.length := by omega
  rw [List.take_of_length_le (by omega)] at hw
  refine JC.cast (l' := (b, isC 81 (WL.c L (⟨T, kd0, [], ss, [], [], 0, [], T.rs.length, [], 0⟩ : WS))) :: mE L (⟨T, kd0, [], ss, [], [], 0, [], T.rs.length, [], 0⟩ : WS) :: spE L.sb L.sm :: (L.H ++ r)) (by rw [List.take_of_length_le (by omega)]; rfl) ?_
  refine AU0 ?_
  refine JL.read 0 rfl rfl (r_load1 (v := .slice B2 T.ls.length d2) rfl (by show some L.t2 = _; rw [hL2])) ?_
  refine AU0 ?_
  refine JC.loop (fun m f l => ∃ (i : Nat) (kd : List KdcS) (L : WL), i + m = T.ls.length ∧ FrOk f [(1, .slice Ac cs.length nc_), (2, .slice As ss.length ns_), (8, ptr b), (116, .slice B2 T.ls.length d2), (117, iv (T.ls.length : Int)), (118, iv (i : Int))] ∧ L.t2 = .slice B2 T.ls.length d2 ∧ linksM T (T.ls.drop i) kd (T.rs.length + i) = some kd1 ∧ WOk W (⟨T, kd, [], ss, [], [], 0, [], T.rs.length + i, [], 0⟩ : WS) L ∧ l = wAll b L (⟨T, kd, [], ss, [], [], 0, [], T.rs.length + i, [], 0⟩ : WS) r) T.ls.length ?_ ?_
  ·exact ⟨0, kd0, L, by omega, ⟨rfl, rfl, rfl, rfl, rfl, rfl, trivial⟩, hL2, m1, hw, rfl⟩
  clear hw hL2 hLA hm hf
  rintro m f l ⟨i, kd, L, hm, hf, hL2, hlk, hw, rfl⟩
  refine JC.frame _ hf fun f' => ?_
  by_cases hi : i < T.ls.length
  ·obtain ⟨z, hz⟩ : ∃ z, T.ls[i]? = some z := ⟨_, List.getElem?_eq_getElem hi⟩
   rw [drop_at hz] at hlk
   obtain ⟨ka, kb, a1, a2, a3⟩ := linksM_cons hlk
   have hz7 := k7 z (List.mem_of_getElem? hz)
   obtain ⟨gl, ol, rfl, hcl⟩ := link_at hw hL2 hz
   refine AU0 ?_
   refine JLs (e_loadSN (cs := enc2 z) rfl rfl (fun ww hww => hcl _ al_top ww hww) ?_)
   refine AU0 ?_
   refine JLs (e_alloc fun b15 => ?_)
   refine JLs (e_store 0 rfl rfl rfl (vs := enc2 z) rfl rfl rfl lE_ ?_)
   refine JL.cast (l' := (b15, isC 44 (enc2 z)) :: wAll b L (⟨T, kd, [], ss, [], [], 0, [], T.rs.length + i, [], 0⟩ : WS) r) rfl ?_
   refine AU0 ?_
   refine JC.cut (fun f l' => ∃ b16 b17, FrOk f [(1, .slice Ac cs.length nc_), (2, .slice As ss.length ns_), (8, ptr b), (15, ptr b15), (16, ptr b16), (17, ptr b17), (116, .slice (some ⟨gl, ol, none⟩) T.ls.length d2), (117, iv (T.ls.length : Int)), (118, iv (i : Int))] ∧ l' = (b17, isC 55 (ck (kf (K (T.rs.length + i))))) :: (b16, isC 48 [sv z.1, sv (grantS ++ z.2)]) :: (b15, isC 44 (enc2 z)) :: wAll b ({ L with sm := true } : WL) (⟨T, kd, [], ss, [], [], 0, [], T.rs.length + i + 1, [], 0⟩ : WS) r) ?_ fun K' hT9 => ?_
   rotate_left
   refine JC.drawn 12 rfl mixed ?_
   refine JDp 0 rfl (y_indexA (j := 0) rfl rfl (by omega)) ?_
   refine JDr 1 0 rfl rfl (r_load1 rfl rfl) ?_
   refine JDp 2 rfl (y_indexA (j := 1) rfl rfl (by omega)) ?_
   refine JDr 3 0 rfl rfl (r_load1 rfl rfl) ?_
   refine JDp 6 rfl y_mv ?_
   refine JD.eff3 4 8 9 (by kernel_rfl) rfl rfl rfl rfl rfl rfl (e_call rfl rfl (Krbtgt_ok hz7) ?_) (e_alloc fun b16 => ⟨tok_, ?_⟩) (e_alloc fun b17 => ⟨tok_, ?_⟩)
   ·rintro v l' ⟨rfl, rfl⟩
    refine ⟨tok_, ?_⟩
    refine JDp 5 rfl (y_build (cells := #[sv z.1, sv (grantS ++ z.2)]) (by kernel_rfl)) ?_
    refine JD.eff3 7 8 9 (by kernel_rfl) rfl rfl rfl rfl rfl rfl (e_call rfl rfl (draw_p [_] rfl (by show T.rs.length + i ≤ _; omega)) ?_) (e_alloc fun b16 => ⟨tok_, ?_⟩) (e_alloc fun b17 => ⟨tok_, ?_⟩)
    ·rintro v l' ⟨rfl, rfl⟩
     refine ⟨tok_, ?_⟩
     refine JD.eff2 8 9 (by kernel_rfl) rfl rfl rfl rfl (e_alloc fun b16 => ⟨tok_, ?_⟩) (e_alloc fun b17 => ⟨tok_, ?_⟩)
     ·refine JDe 9 rfl (e_alloc fun b17 => ⟨tok_, ?_⟩)
      refine JDe 10 rfl (e_store 1 rfl rfl rfl (vs := [sv z.1, sv (grantS ++ z.2)]) rfl rfl rfl lE_ ⟨tok_, ?_⟩)
      refine JDe 11 rfl (e_store 0 rfl rfl rfl (vs := ck (kf (K (T.rs.length + i)))) rfl rfl rfl lE_ ⟨tok_, ?_⟩)
      refine JDd ?_
      refine RN.cast (l' := (b17, isC 55 (ck (kf (K (T.rs.length + i))))) :: (b16, isC 48 [sv z.1, sv (grantS ++ z.2)]) :: (b15, isC 44 (enc2 z)) :: wAll b ({ L with sm := true } : WL) (⟨T, kd, [], ss, [], [], 0, [], T.rs.length + i + 1, [], 0⟩ : WS) r) rfl ?_
      exact hT9 _ _ ⟨b16, b17, ⟨rfl, rfl, rfl, rfl, rfl, rfl, rfl, rfl, rfl, trivial⟩, rfl⟩
     ·refine JDe 8 rfl (e_alloc fun b16 => ⟨tok_, ?_⟩)
      refine JD.perm (List.Perm.swap _ _ _) ?_
      refine JDe 10 rfl (e_store 1 rfl rfl rfl (vs := [sv z.1, sv (grantS ++ z.2)]) rfl rfl rfl lE_ ⟨tok_, ?_⟩)
      refine JDe 11 rfl (e_store 0 rfl rfl rfl (vs := ck (kf (K (T.rs.length + i)))) rfl rfl rfl lE_ ⟨tok_, ?_⟩)
      refine JDd ?_
      refine RN.cast (l' := (b17, isC 55 (ck (kf (K (T.rs.length + i))))) :: (b16, isC 48 [sv z.1, sv (grantS ++ z.2)]) :: (b15, isC 44 (enc2 z)) :: wAll b ({ L with sm := true } : WL) (⟨T, kd, [], ss, [], [], 0, [], T.rs.length + i + 1, [], 0⟩ : WS) r) rfl ?_
      exact hT9 _ _ ⟨b16, b17, ⟨rfl, rfl, rfl, rfl, rfl, rfl, rfl, rfl, rfl, trivial⟩, rfl⟩
    ·refine JD.eff2 7 9 (by kernel_rfl) rfl rfl rfl rfl (e_call rfl rfl (draw_p [_, _] rfl (by show T.rs.length + i ≤ _; omega)) ?_) (e_alloc fun b17 => ⟨tok_, ?_⟩)
     ·rintro v l' ⟨rfl, rfl⟩
      refine ⟨tok_, ?_⟩
      refine JDe 9 rfl (e_alloc fun b17 => ⟨tok_, ?_⟩)
      refine JDe 10 rfl (e_store 1 rfl rfl rfl (vs := [sv z.1, sv (grantS ++ z.2)]) rfl rfl rfl lE_ ⟨tok_, ?_⟩)
      refine JDe 11 rfl (e_store 0 rfl rfl rfl (vs := ck (kf (K (T.rs.length + i)))) rfl rfl rfl lE_ ⟨tok_, ?_⟩)
      refine JDd ?_
      refine RN.cast (l' := (b17, isC 55 (ck (kf (K (T.rs.length + i))))) :: (b16, isC 48 [sv z.1, sv (grantS ++ z.2)]) :: (b15, isC 44 (enc2 z)) :: wAll b ({ L with sm := true } : WL) (⟨T, kd, [], ss, [], [], 0, [], T.rs.length + i + 1, [], 0⟩ : WS) r) rfl ?_
      exact hT9 _ _ ⟨b16, b17, ⟨rfl, rfl, rfl, rfl, rfl, rfl, rfl, rfl, rfl, trivial⟩, rfl⟩
     ·refine JDe 7 rfl (e_call rfl rfl (draw_p [_, _, _] rfl (by show T.rs.length + i ≤ _; omega)) ?_)
      rintro v l' ⟨rfl, rfl⟩
      refine ⟨tok_, ?_⟩
      refine JDe 10 rfl (e_store 1 rfl rfl rfl (vs := [sv z.1, sv (grantS ++ z.2)]) rfl rfl rfl lE_ ⟨tok_, ?_⟩)
      refine JDe 11 rfl (e_store 0 rfl rfl rfl (vs := ck (kf (K (T.rs.length + i)))) rfl rfl rfl lE_ ⟨tok_, ?_⟩)
      refine JDd ?_
      refine RN.cast (l' := (b17, isC 55 (ck (kf (K (T.rs.length + i))))) :: (b16, isC 48 [sv z.1, sv (grantS ++ z.2)]) :: (b15, isC 44 (enc2 z)) :: wAll b ({ L with sm := true } : WL) (⟨T, kd, [], ss, [], [], 0, [], T.rs.length + i + 1, [], 0⟩ : WS) r) rfl ?_
      exact hT9 _ _ ⟨b16, b17, ⟨rfl, rfl, rfl, rfl, rfl, rfl, rfl, rfl, rfl, trivial⟩, rfl⟩
    ·refine JD.eff2 7 8 (by kernel_rfl) rfl rfl rfl rfl (e_call rfl rfl (draw_p [_, _] rfl (by show T.rs.length + i ≤ _; omega)) ?_) (e_alloc fun b16 => ⟨tok_, ?_⟩)
     ·rintro v l' ⟨rfl, rfl⟩
      refine ⟨tok_, ?_⟩
      refine JDe 8 rfl (e_alloc fun b16 => ⟨tok_, ?_⟩)
      refine JD.perm (List.Perm.swap _ _ _) ?_
      refine JDe 10 rfl (e_store 1 rfl rfl rfl (vs := [sv z.1, sv (grantS ++ z.2)]) rfl rfl rfl lE_ ⟨tok_, ?_⟩)
      refine JDe 11 rfl (e_store 0 rfl rfl rfl (vs := ck (kf (K (T.rs.length + i)))) rfl rfl rfl lE_ ⟨tok_, ?_⟩)
      refine JDd ?_
      refine RN.cast (l' := (b17, isC 55 (ck (kf (K (T.rs.length + i))))) :: (b16, isC 48 [sv z.1, sv (grantS ++ z.2)]) :: (b15, isC 44 (enc2 z)) :: wAll b ({ L with sm := true } : WL) (⟨T, kd, [], ss, [], [], 0, [], T.rs.length + i + 1, [], 0⟩ : WS) r) rfl ?_
      exact hT9 _ _ ⟨b16, b17, ⟨rfl, rfl, rfl, rfl, rfl, rfl, rfl, rfl, rfl, trivial⟩, rfl⟩
     ·refine JD.perm (List.Perm.swap _ _ _) ?_
      refine JDe 7 rfl (e_call rfl rfl (draw_p [_, _, _] rfl (by show T.rs.length + i ≤ _; omega)) ?_)
      rintro v l' ⟨rfl, rfl⟩
      refine ⟨tok_, ?_⟩
      refine JDe 10 rfl (e_store 1 rfl rfl rfl (vs := [sv z.1, sv (grantS ++ z.2)]) rfl rfl rfl lE_ ⟨tok_, ?_⟩)
      refine JDe 11 rfl (e_store 0 rfl rfl rfl (vs := ck (kf (K (T.rs.length + i)))) rfl rfl rfl lE_ ⟨tok_, ?_⟩)
      refine JDd ?_
      refine RN.cast (l' := (b17, isC 55 (ck (kf (K (T.rs.length + i))))) :: (b16, isC 48 [sv z.1, sv (grantS ++ z.2)]) :: (b15, isC 44 (enc2 z)) :: wAll b ({ L with sm := true } : WL) (⟨T, kd, [], ss, [], [], 0, [], T.rs.length + i + 1, [], 0⟩ : WS) r) rfl ?_
      exact hT9 _ _ ⟨b16, b17, ⟨rfl, rfl, rfl, rfl, rfl, rfl, rfl, rfl, rfl, trivial⟩, rfl⟩
   ·refine JD.eff2 4 9 (by kernel_rfl) rfl rfl rfl rfl (e_call rfl rfl (Krbtgt_ok hz7) ?_) (e_alloc fun b17 => ⟨tok_, ?_⟩)
    ·rintro v l' ⟨rfl, rfl⟩
     refine ⟨tok_, ?_⟩
     refine JDp 5 rfl (y_build (cells := #[sv z.1, sv (grantS ++ z.2)]) (by kernel_rfl)) ?_
     refine JD.eff2 7 9 (by kernel_rfl) rfl rfl rfl rfl (e_call rfl rfl (draw_p [_, _] rfl (by show T.rs.length + i ≤ _; omega)) ?_) (e_alloc fun b17 => ⟨tok_, ?_⟩)
     ·rintro v l' ⟨rfl, rfl⟩
      refine ⟨tok_, ?_⟩
      refine JDe 9 rfl (e_alloc fun b17 => ⟨tok_, ?_⟩)
      refine JDe 10 rfl (e_store 1 rfl rfl rfl (vs := [sv z.1, sv (grantS ++ z.2)]) rfl rfl rfl lE_ ⟨tok_, ?_⟩)
      refine JDe 11 rfl (e_store 0 rfl rfl rfl (vs := ck (kf (K (T.rs.length + i)))) rfl rfl rfl lE_ ⟨tok_, ?_⟩)
      refine JDd ?_
      refine RN.cast (l' := (b17, isC 55 (ck (kf (K (T.rs.length + i))))) :: (b16, isC 48 [sv z.1, sv (grantS ++ z.2)]) :: (b15, isC 44 (enc2 z)) :: wAll b ({ L with sm := true } : WL) (⟨T, kd, [], ss, [], [], 0, [], T.rs.length + i + 1, [], 0⟩ : WS) r) rfl ?_
      exact hT9 _ _ ⟨b16, b17, ⟨rfl, rfl, rfl, rfl, rfl, rfl, rfl, rfl, rfl, trivial⟩, rfl⟩
     ·refine JDe 7 rfl (e_call rfl rfl (draw_p [_, _, _] rfl (by show T.rs.length + i ≤ _; omega)) ?_)
      rintro v l' ⟨rfl, rfl⟩
      refine ⟨tok_, ?_⟩
      refine JDe 10 rfl (e_store 1 rfl rfl rfl (vs := [sv z.1, sv (grantS ++ z.2)]) rfl rfl rfl lE_ ⟨tok_, ?_⟩)
      refine JDe 11 rfl (e_store 0 rfl rfl rfl (vs := ck (kf (K (T.rs.length + i)))) rfl rfl rfl lE_ ⟨tok_, ?_⟩)
      refine JDd ?_
      refine RN.cast (l' := (b17, isC 55 (ck (kf (K (T.rs.length + i))))) :: (b16, isC 48 [sv z.1, sv (grantS ++ z.2)]) :: (b15, isC 44 (enc2 z)) :: wAll b ({ L with sm := true } : WL) (⟨T, kd, [], ss, [], [], 0, [], T.rs.length + i + 1, [], 0⟩ : WS) r) rfl ?_
      exact hT9 _ _ ⟨b16, b17, ⟨rfl, rfl, rfl, rfl, rfl, rfl, rfl, rfl, rfl, trivial⟩, rfl⟩
    ·refine JDe 4 rfl (e_call rfl rfl (Krbtgt_ok hz7) ?_)
     rintro v l' ⟨rfl, rfl⟩
     refine ⟨tok_, ?_⟩
     refine JDp 5 rfl (y_build (cells := #[sv z.1, sv (grantS ++ z.2)]) (by kernel_rfl)) ?_
     refine JDe 7 rfl (e_call rfl rfl (draw_p [_, _, _] rfl (by show T.rs.length + i ≤ _; omega)) ?_)
     rintro v l' ⟨rfl, rfl⟩
     refine ⟨tok_, ?_⟩
     refine JDe 10 rfl (e_store 1 rfl rfl rfl (vs := [sv z.1, sv (grantS ++ z.2)]) rfl rfl rfl lE_ ⟨tok_, ?_⟩)
     refine JDe 11 rfl (e_store 0 rfl rfl rfl (vs := ck (kf (K (T.rs.length + i)))) rfl rfl rfl lE_ ⟨tok_, ?_⟩)
     refine JDd ?_
     refine RN.cast (l' := (b17, isC 55 (ck (kf (K (T.rs.length + i))))) :: (b16, isC 48 [sv z.1, sv (grantS ++ z.2)]) :: (b15, isC 44 (enc2 z)) :: wAll b ({ L with sm := true } : WL) (⟨T, kd, [], ss, [], [], 0, [], T.rs.length + i + 1, [], 0⟩ : WS) r) rfl ?_
     exact hT9 _ _ ⟨b16, b17, ⟨rfl, rfl, rfl, rfl, rfl, rfl, rfl, rfl, rfl, trivial⟩, rfl⟩
   ·refine JD.eff2 4 8 (by kernel_rfl) rfl rfl rfl rfl (e_call rfl rfl (Krbtgt_ok hz7) ?_) (e_alloc fun b16 => ⟨tok_, ?_⟩)
    ·rintro v l' ⟨rfl, rfl⟩
     refine ⟨tok_, ?_⟩
     refine JDp 5 rfl (y_build (cells := #[sv z.1, sv (grantS ++ z.2)]) (by kernel_rfl)) ?_
     refine JD.eff2 7 8 (by kernel_rfl) rfl rfl rfl rfl (e_call rfl rfl (draw_p [_, _] rfl (by show T.rs.length + i ≤ _; omega)) ?_) (e_alloc fun b16 => ⟨tok_, ?_⟩)
     ·rintro v l' ⟨rfl, rfl⟩
      refine ⟨tok_, ?_⟩
      refine JDe 8 rfl (e_alloc fun b16 => ⟨tok_, ?_⟩)
      refine JD.perm (List.Perm.swap _ _ _) ?_
      refine JDe 10 rfl (e_store 1 rfl rfl rfl (vs := [sv z.1, sv (grantS ++ z.2)]) rfl rfl rfl lE_ ⟨tok_, ?_⟩)
      refine JDe 11 rfl (e_store 0 rfl rfl rfl (vs := ck (kf (K (T.rs.length + i)))) rfl rfl rfl lE_ ⟨tok_, ?_⟩)
      refine JDd ?_
      refine RN.cast (l' := (b17, isC 55 (ck (kf (K (T.rs.length + i))))) :: (b16, isC 48 [sv z.1, sv (grantS ++ z.2)]) :: (b15, isC 44 (enc2 z)) :: wAll b ({ L with sm := true } : WL) (⟨T, kd, [], ss, [], [], 0, [], T.rs.length + i + 1, [], 0⟩ : WS) r) rfl ?_
      exact hT9 _ _ ⟨b16, b17, ⟨rfl, rfl, rfl, rfl, rfl, rfl, rfl, rfl, rfl, trivial⟩, rfl⟩
     ·refine JD.perm (List.Perm.swap _ _ _) ?_
      refine JDe 7 rfl (e_call rfl rfl (draw_p [_, _, _] rfl (by show T.rs.length + i ≤ _; omega)) ?_)
      rintro v l' ⟨rfl, rfl⟩
      refine ⟨tok_, ?_⟩
      refine JDe 10 rfl (e_store 1 rfl rfl rfl (vs := [sv z.1, sv (grantS ++ z.2)]) rfl rfl rfl lE_ ⟨tok_, ?_⟩)
      refine JDe 11 rfl (e_store 0 rfl rfl rfl (vs := ck (kf (K (T.rs.length + i)))) rfl rfl rfl lE_ ⟨tok_, ?_⟩)
      refine JDd ?_
      refine RN.cast (l' := (b17, isC 55 (ck (kf (K (T.rs.length + i))))) :: (b16, isC 48 [sv z.1, sv (grantS ++ z.2)]) :: (b15, isC 44 (enc2 z)) :: wAll b ({ L with sm := true } : WL) (⟨T, kd, [], ss, [], [], 0, [], T.rs.length + i + 1, [], 0⟩ : WS) r) rfl ?_
      exact hT9 _ _ ⟨b16, b17, ⟨rfl, rfl, rfl, rfl, rfl, rfl, rfl, rfl, rfl, trivial⟩, rfl⟩
    ·refine JD.perm (List.Perm.swap _ _ _) ?_
     refine JDe 4 rfl (e_call rfl rfl (Krbtgt_ok hz7) ?_)
     rintro v l' ⟨rfl, rfl⟩
     refine ⟨tok_, ?_⟩
     refine JDp 5 rfl (y_build (cells := #[sv z.1, sv (grantS ++ z.2)]) (by kernel_rfl)) ?_
     refine JDe 7 rfl (e_call rfl rfl (draw_p [_, _, _] rfl (by show T.rs.length + i ≤ _; omega)) ?_)
     rintro v l' ⟨rfl, rfl⟩
     refine ⟨tok_, ?_⟩
     refine JDe 10 rfl (e_store 1 rfl rfl rfl (vs := [sv z.1, sv (grantS ++ z.2)]) rfl rfl rfl lE_ ⟨tok_, ?_⟩)
     refine JDe 11 rfl (e_store 0 rfl rfl rfl (vs := ck (kf (K (T.rs.length + i)))) rfl rfl rfl lE_ ⟨tok_, ?_⟩)
     refine JDd ?_
     refine RN.cast (l' := (b17, isC 55 (ck (kf (K (T.rs.length + i))))) :: (b16, isC 48 [sv z.1, sv (grantS ++ z.2)]) :: (b15, isC 44 (enc2 z)) :: wAll b ({ L with sm := true } : WL) (⟨T, kd, [], ss, [], [], 0, [], T.rs.length + i + 1, [], 0⟩ : WS) r) rfl ?_
     exact hT9 _ _ ⟨b16, b17, ⟨rfl, rfl, rfl, rfl, rfl, rfl, rfl, rfl, rfl, trivial⟩, rfl⟩
   rintro f l' ⟨b16, b17, hf, rfl⟩
   refine RN.frame _ hf fun f' => ?_
   have hw1 : WOk W (⟨T, kd, [], ss, [], [], 0, [], T.rs.length + i + 1, [], 0⟩ : WS) ({ L with sm := true } : WL) := { hw with tt := hw.tt }
   obtain ⟨-, p1, hr1, ha1⟩ := atR_ok hw1 a1 b
   refine AU0 ?_
   refine JC.drawn 7 rfl mixed ?_
   refine JDp 0 rfl y_mv ?_
   refine JDp 1 rfl (y_indexA (j := 0) rfl rfl (by omega)) ?_
   refine JDr 2 2 rfl rfl (r_load1 rfl rfl) ?_
   refine JDr 4 1 rfl rfl (r_loadA rfl lE_ rfl) ?_
   refine JDr 5 0 rfl rfl (r_loadA rfl lE_ rfl) ?_
   refine JDe 3 rfl (e_call rfl rfl (hr1 _ fun e he => List.mem_append_right [_, _, _] (al_mem e he)) ?_)
   rintro v l' ⟨rfl, rfl⟩
   refine ⟨tok_, ?_⟩
   refine JDe 6 rfl (e_call rfl rfl (ha1 [_, _, _] r _ rfl) ?_)
   rintro v l' ⟨rfl, KH1, hw2, rfl⟩
   refine ⟨tok_, ?_⟩
   refine JDd ?_
   obtain ⟨-, p2, hr2, ha2⟩ := atR_ok hw2 a2 b
   refine AU0 ?_
   refine JC.drawn 7 rfl mixed ?_
   refine JDp 0 rfl y_mv ?_
   refine JDp 1 rfl (y_indexA (j := 1) rfl rfl (by omega)) ?_
   refine JDr 2 2 rfl rfl (r_load1 rfl rfl) ?_
   refine JDr 4 1 rfl rfl (r_loadA rfl lE_ rfl) ?_
   refine JDr 5 0 rfl rfl (r_loadA rfl lE_ rfl) ?_
   refine JDe 3 rfl (e_call rfl rfl (hr2 _ fun e he => List.mem_append_right [_, _, _] (al_mem e he)) ?_)
   rintro v l' ⟨rfl, rfl⟩
   refine ⟨tok_, ?_⟩
   refine JDe 6 rfl (e_call rfl rfl (ha2 [_, _, _] r _ rfl) ?_)
   rintro v l' ⟨rfl, KH2, hw3, rfl⟩
   refine ⟨tok_, ?_⟩
   refine JDd ?_
   refine RN.sub (List.sublist_append_right [_, _, _] _) ?_
   refine AU0 ?_
   exact RN.loop (m' := m - 1) (by omega) ⟨i + 1, kb, { L with KH := KH2, sm := true }, by omega, ⟨rfl, rfl, rfl, rfl, rfl, rfl, trivial⟩, hL2, a3, hw3, rfl⟩
  ·obtain rfl : i = T.ls.length := by omega
   rw [List.drop_length] at hlk
   obtain rfl : kd = kd1 := Option.some.inj hlk
   refine AU0 ?_
   refine JC.loop (fun m f l => ∃ (i : Nat) (ke : List KdcS) (L : WL), i + m = cs.length ∧ FrOk f [(2, .slice As ss.length ns_), (8, ptr b), (145, .slice Ac cs.length nc_), (146, iv (cs.length : Int)), (147, iv (i : Int))] ∧ usersM T (cs.drop i) ke (T.rs.length + T.ls.length + i) = some kd2 ∧ WOk W (⟨T, ke, (((cs.zipIdx (T.rs.length + T.ls.length)).map fun x => newC x.1 x.2)).take i, ss, [], [], 0, [], T.rs.length + T.ls.length + i, [], 0⟩ : WS) L ∧ l = wAll b L (⟨T, ke, (((cs.zipIdx (T.rs.length + T.ls.length)).map fun x => newC x.1 x.2)).take i, ss, [], [], 0, [], T.rs.length + T.ls.length + i, [], 0⟩ : WS) r) cs.length ?_ ?_
   ·exact ⟨0, kd, L, by omega, ⟨rfl, rfl, rfl, rfl, rfl, trivial⟩, m2, hw, rfl⟩
   clear hw hL2 hlk hm hf
   rintro m f l ⟨i, ke, L, hm, hf, hus, hw, rfl⟩
   refine JC.frame _ hf fun f' => ?_
   by_cases hi : i < cs.length
   ·obtain ⟨p, hp⟩ : ∃ p, cs[i]? = some p := ⟨_, List.getElem?_eq_getElem hi⟩
    rw [drop_at hp] at hus
    obtain ⟨ka, a1, a2⟩ := usersM_cons hus
    obtain ⟨hu, hin⟩ := k4 p (List.mem_append_left _ (List.mem_of_getElem? hp))
    have hcl : (((cs.zipIdx (T.rs.length + T.ls.length)).map fun x => newC x.1 x.2))[i]? = some (newC p (T.rs.length + T.ls.length + i)) := by rw [List.getElem?_map, List.getElem?_zipIdx, hp]; rfl
    have hlc : ((((cs.zipIdx (T.rs.length + T.ls.length)).map fun x => newC x.1 x.2)).take i).length = i := by rw [List.length_take, List.length_map, List.length_zipIdx]; omega
    obtain ⟨gl, ol, rfl, hca⟩ := src2_at hcs.1 hp
    refine AU0 ?_
    refine JLs (e_loadSN (cs := enc2 p) rfl rfl (fun ww hww => hca _ al_rest ww hww) ?_)
    refine AU0 ?_
    refine JLs (e_alloc fun b19 => ?_)
    refine JLs (e_store 0 rfl rfl rfl (vs := enc2 p) rfl rfl rfl lE_ ?_)
    refine JL.cast (l' := (b19, isC 48 (enc2 p)) :: wAll b L (⟨T, ke, (((cs.zipIdx (T.rs.length + T.ls.length)).map fun x => newC x.1 x.2)).take i, ss, [], [], 0, [], T.rs.length + T.ls.length + i, [], 0⟩ : WS) r) rfl ?_
    refine AU0 ?_
    refine JLs (e_call rfl rfl (draw_p [_] rfl (by show T.rs.length + T.ls.length + i ≤ _; omega)) ?_)
    rintro v l' ⟨rfl, rfl⟩
    refine JLs (e_alloc fun b20 => ?_)
    refine JLs (e_store 0 rfl rfl rfl (vs := ck (kf (K (T.rs.length + T.ls.length + i)))) rfl rfl rfl lE_ ?_)
    refine JL.cast (l' := (b20, isC 55 (ck (kf (K (T.rs.length + T.ls.length + i))))) :: (b19, isC 48 (enc2 p)) :: wAll b ({ L with sm := true } : WL) (⟨T, ke, (((cs.zipIdx (T.rs.length + T.ls.length)).map fun x => newC x.1 x.2)).take i, ss, [], [], 0, [], T.rs.length + T.ls.length + i + 1, [], 0⟩ : WS) r) rfl ?_
    have hw1 : WOk W (⟨T, ke, (((cs.zipIdx (T.rs.length + T.ls.length)).map fun x => newC x.1 x.2)).take i, ss, [], [], 0, [], T.rs.length + T.ls.length + i + 1, [], 0⟩ : WS) ({ L with sm := true } : WL) := { hw with tt := hw.tt }
    obtain ⟨-, p1, hr1, ha1⟩ := atR_ok hw1 a1 b
    refine AU0 ?_
    refine JC.drawn 7 rfl mixed ?_
    refine JDp 0 rfl y_mv ?_
    refine JDp 1 rfl (y_fieldAddr rfl) ?_
    refine JDr 2 1 rfl rfl (r_load1 rfl rfl) ?_
    refine JDr 4 1 rfl rfl (r_loadA rfl lE_ rfl) ?_
    refine JDr 5 0 rfl rfl (r_loadA rfl lE_ rfl) ?_
    refine JDe 3 rfl (e_call rfl rfl (hr1 _ fun e he => List.mem_append_right [_, _] (al_mem e he)) ?_)
    rintro v l' ⟨rfl, rfl⟩
    refine ⟨tok_, ?_⟩
    refine JDe 6 rfl (e_call rfl rfl (ha1 [_, _] r _ rfl) ?_)
    rintro v l' ⟨rfl, KH1, hw2, rfl⟩
    refine ⟨tok_, ?_⟩
    refine JDd ?_
    refine RN.cast (l' := (b20, isC 55 (ck (kf (K (T.rs.length + T.ls.length + i))))) :: (b19, isC 48 (enc2 p)) :: wAll b ({ L with KH := KH1, sm := true } : WL) (⟨T, ka, (((cs.zipIdx (T.rs.length + T.ls.length)).map fun x => newC x.1 x.2)).take i, ss, [], [], 0, [], T.rs.length + T.ls.length + i + 1, [], 0⟩ : WS) r) rfl ?_
    refine AU2 ?_
    refine JLs (e_call rfl rfl (CNew2_ok hu) ?_)
    rintro v l' ⟨cb, cH, rfl, hcB, rfl⟩
    refine AU0 ?_
    refine JL.sub (l' := cH ++ wAll b ({ L with KH := KH1, sm := true } : WL) (⟨T, ka, (((cs.zipIdx (T.rs.length + T.ls.length)).map fun x => newC x.1 x.2)).take i, ss, [], [], 0, [], T.rs.length + T.ls.length + i + 1, [], 0⟩ : WS) r) (List.Sublist.append_left (List.sublist_append_right [_, _] _) _) ?_
    refine JL.cast (l' := cH ++ ((b, isC 81 (WL.c ({ L with KH := KH1, sm := true } : WL) (⟨T, ka, (((cs.zipIdx (T.rs.length + T.ls.length)).map fun x => newC x.1 x.2)).take i, ss, [], [], 0, [], T.rs.length + T.ls.length + i + 1, [], 0⟩ : WS))) :: mE L (⟨T, ka, (((cs.zipIdx (T.rs.length + T.ls.length)).map fun x => newC x.1 x.2)).take i, ss, [], [], 0, [], T.rs.length + T.ls.length + i + 1, [], 0⟩ : WS) :: spE L.sb true :: ((L.TH ++ (L.rl ++ (L.kl ++ (KH1 ++ (L.cl ++ (L.CH ++ (L.sl ++ (L.al ++ (L.AH ++ (L.NH ++ (L.acl ++ (L.AccH ++ L.isl)))))))))))) ++ r))) rfl ?_
    refine JL.perm (l' := (b, isC 81 (WL.c ({ L with KH := KH1, sm := true } : WL) (⟨T, ka, (((cs.zipIdx (T.rs.length + T.ls.length)).map fun x => newC x.1 x.2)).take i, ss, [], [], 0, [], T.rs.length + T.ls.length + i + 1, [], 0⟩ : WS))) :: (L.cl ++ (cH ++ (mE L (⟨T, ka, (((cs.zipIdx (T.rs.length + T.ls.length)).map fun x => newC x.1 x.2)).take i, ss, [], [], 0, [], T.rs.length + T.ls.length + i + 1, [], 0⟩ : WS) :: spE L.sb true :: (L.TH ++ (L.rl ++ (L.kl ++ (KH1 ++ (L.CH ++ ((L.sl ++ (L.al ++ (L.AH ++ (L.NH ++ (L.acl ++ (L.AccH ++ L.isl)))))) ++ r)))))))))) prm_ ?_
    refine AU1 ?_
    refine JLs (e_buildSlice (cells := [ptr cb]) [ptr cb] rfl lE_ rfl (fun u hu => by cases List.mem_singleton.1 hu; rfl) rfl fun bs => ?_)
    have hwc : Lg.Own 52 1 (.slice L.cA ((((cs.zipIdx (T.rs.length + T.ls.length)).map fun x => newC x.1 x.2)).take i).length L.cc) ((((cs.zipIdx (T.rs.length + T.ls.length)).map fun x => newC x.1 x.2)).take i).length (L.cid.map ptr) L.cl := hw.c
    refine JLs (e_appendP [_, _] L.cl rfl rfl hwc rfl (news := [ptr cb]) rfl (Src.whole (List.mem_cons_self ..)) (fun u hu => by cases List.mem_singleton.1 hu; rfl) (by omega) (by unfold maxLen; omega) fun v' la ho1 _ => ?_)
    obtain ⟨g, c, rfl, -, -, -⟩ := De.own_some (id ho1) (Nat.succ_pos _)
    refine AU0 ?_
    refine JLs (e_store 1 rfl rfl rfl (vs := [.slice (some ⟨g, 0, none⟩) (((((cs.zipIdx (T.rs.length + T.ls.length)).map fun x => newC x.1 x.2)).take i).length + 1) c]) rfl rfl rfl lE_ ?_)
    refine JL.cast (l' := _ :: (b, isC 81 [.slice L.t1A T.rs.length L.t1c, L.t2, L.t3, .slice L.rA ka.length L.rc, .slice L.kA ka.length L.kc, .slice (some ⟨g, 0, none⟩) (((((cs.zipIdx (T.rs.length + T.ls.length)).map fun x => newC x.1 x.2)).take i).length + 1) c, .slice L.sA ss.length L.sc, .slice L.aA 0 L.ac, ptr L.nb, .map (some L.mb), iv ((T.rs.length + T.ls.length + i + 1 : Nat) : Int), ptr L.sb, .slice L.acA 0 L.acc, .slice L.isA 0 L.isc, nl, .map (some L.ob)]) :: (la ++ (cH ++ (mE L (⟨T, ka, (((cs.zipIdx (T.rs.length + T.ls.length)).map fun x => newC x.1 x.2)).take i, ss, [], [], 0, [], T.rs.length + T.ls.length + i + 1, [], 0⟩ : WS) :: spE L.sb true :: (L.TH ++ (L.rl ++ (L.kl ++ (KH1 ++ (L.CH ++ ((L.sl ++ (L.al ++ (L.AH ++ (L.NH ++ (L.acl ++ (L.AccH ++ L.isl)))))) ++ r)))))))))) rfl ?_
    refine JL.sub (List.sublist_append_right [_] _) ?_
    have hw3 : WOk W (⟨T, ka, (((cs.zipIdx (T.rs.length + T.ls.length)).map fun x => newC x.1 x.2)).take (i + 1), ss, [], [], 0, [], T.rs.length + T.ls.length + i + 1, [], 0⟩ : WS) ({ L with KH := KH1, sm := true, cA := some ⟨g, 0, none⟩, cc := c, cl := la, cid := L.cid ++ [cb], CH := L.CH ++ cH } : WL) := by
     rw [take_at hcl]
     exact snocC hw2 (by show ((((cs.zipIdx (T.rs.length + T.ls.length)).map fun x => newC x.1 x.2)).take i).length < 3; omega) hcB ho1
    refine JL.perm (l' := wAll b ({ L with KH := KH1, sm := true, cA := some ⟨g, 0, none⟩, cc := c, cl := la, cid := L.cid ++ [cb], CH := L.CH ++ cH } : WL) (⟨T, ka, (((cs.zipIdx (T.rs.length + T.ls.length)).map fun x => newC x.1 x.2)).take (i + 1), ss, [], [], 0, [], T.rs.length + T.ls.length + i + 1, [], 0⟩ : WS) r) ?_ ?_
    ·have he : wE b ({ L with KH := KH1, sm := true, cA := some ⟨g, 0, none⟩, cc := c, cl := la, cid := L.cid ++ [cb], CH := L.CH ++ cH } : WL) (⟨T, ka, (((cs.zipIdx (T.rs.length + T.ls.length)).map fun x => newC x.1 x.2)).take (i + 1), ss, [], [], 0, [], T.rs.length + T.ls.length + i + 1, [], 0⟩ : WS) = (b, isC 81 [.slice L.t1A T.rs.length L.t1c, L.t2, L.t3, .slice L.rA ka.length L.rc, .slice L.kA ka.length L.kc, .slice (some ⟨g, 0, none⟩) (((((cs.zipIdx (T.rs.length + T.ls.length)).map fun x => newC x.1 x.2)).take i).length + 1) c, .slice L.sA ss.length L.sc, .slice L.aA 0 L.ac, ptr L.nb, .map (some L.mb), iv ((T.rs.length + T.ls.length + i + 1 : Nat) : Int), ptr L.sb, .slice L.acA 0 L.acc, .slice L.isA 0 L.isc, nl, .map (some L.ob)]) := by
      have hlc' : ((((cs.zipIdx (T.rs.length + T.ls.length)).map fun x => newC x.1 x.2)).take (i + 1)).length = i + 1 := by rw [List.length_take, List.length_map, List.length_zipIdx]; omega
      unfold wE WL.c; dsimp only; rw [hlc', hlc]; rfl
     unfold wAll WL.H
     rw [he]
     show List.Perm _ ((b, isC 81 [.slice L.t1A T.rs.length L.t1c, L.t2, L.t3, .slice L.rA ka.length L.rc, .slice L.kA ka.length L.kc, .slice (some ⟨g, 0, none⟩) (((((cs.zipIdx (T.rs.length + T.ls.length)).map fun x => newC x.1 x.2)).take i).length + 1) c, .slice L.sA ss.length L.sc, .slice L.aA 0 L.ac, ptr L.nb, .map (some L.mb), iv ((T.rs.length + T.ls.length + i + 1 : Nat) : Int), ptr L.sb, .slice L.acA 0 L.acc, .slice L.isA 0 L.isc, nl, .map (some L.ob)]) :: mE L (⟨T, ka, (((cs.zipIdx (T.rs.length + T.ls.length)).map fun x => newC x.1 x.2)).take i, ss, [], [], 0, [], T.rs.length + T.ls.length + i + 1, [], 0⟩ : WS) :: spE L.sb true :: ((L.TH ++ (L.rl ++ (L.kl ++ (KH1 ++ (la ++ ((L.CH ++ cH) ++ (L.sl ++ (L.al ++ (L.AH ++ (L.NH ++ (L.acl ++ (L.AccH ++ L.isl)))))))))))) ++ r))
     exact prm_
    refine AU0 ?_
    exact RN.loop (m' := m - 1) (by omega) ⟨i + 1, ka, ({ L with KH := KH1, sm := true, cA := some ⟨g, 0, none⟩, cc := c, cl := la, cid := L.cid ++ [cb], CH := L.CH ++ cH } : WL), by omega, ⟨rfl, rfl, rfl, rfl, rfl, trivial⟩, a2, hw3, rfl⟩
   ·obtain rfl : i = cs.length := by omega
    rw [List.drop_length] at hus
    obtain rfl : ke = kd2 := Option.some.inj hus
    rw [List.take_of_length_le (by rw [List.length_map, List.length_zipIdx]; exact Nat.le_refl _)] at hw ⊢
    refine AU0 ?_
    refine JC.loop (fun m f l => ∃ (i : Nat) (kg : List KdcS) (L : WL), i + m = ss.length ∧ FrOk f [(8, ptr b), (177, .slice As ss.length ns_), (178, iv (ss.length : Int)), (179, iv (i : Int))] ∧ usersM T (ss.drop i) kg (T.rs.length + T.ls.length + cs.length + i) = some kd3 ∧ WOk W (⟨T, kg, ((cs.zipIdx (T.rs.length + T.ls.length)).map fun x => newC x.1 x.2), ss, (((ss.zipIdx (T.rs.length + T.ls.length + cs.length)).map fun x => (⟨x.1, x.2, []⟩ : AcS))).take i, [], 0, [], T.rs.length + T.ls.length + cs.length + i, [], 0⟩ : WS) L ∧ l = wAll b L (⟨T, kg, ((cs.zipIdx (T.rs.length + T.ls.length)).map fun x => newC x.1 x.2), ss, (((ss.zipIdx (T.rs.length + T.ls.length + cs.length)).map fun x => (⟨x.1, x.2, []⟩ : AcS))).take i, [], 0, [], T.rs.length + T.ls.length + cs.length + i, [], 0⟩ : WS) r) ss.length ?_ ?_
    ·exact ⟨0, ke, L, by omega, ⟨rfl, rfl, rfl, rfl, trivial⟩, m3, hw, rfl⟩
    clear hw hus hm hf
    rintro m f l ⟨i, kg, L, hm, hf, hus, hw, rfl⟩
    refine JC.frame _ hf fun f' => ?_
    by_cases hi : i < ss.length
    ·obtain ⟨p, hp⟩ : ∃ p, ss[i]? = some p := ⟨_, List.getElem?_eq_getElem hi⟩
     rw [drop_at hp] at hus
     obtain ⟨ka, a1, a2⟩ := usersM_cons hus
     obtain ⟨hu, hin⟩ := k4 p (List.mem_append_right _ (List.mem_of_getElem? hp))
     have hcl : (((ss.zipIdx (T.rs.length + T.ls.length + cs.length)).map fun x => (⟨x.1, x.2, []⟩ : AcS)))[i]? = some (⟨p, T.rs.length + T.ls.length + cs.length + i, []⟩ : AcS) := by rw [List.getElem?_map, List.getElem?_zipIdx, hp]; rfl
     have hlc : ((((ss.zipIdx (T.rs.length + T.ls.length + cs.length)).map fun x => (⟨x.1, x.2, []⟩ : AcS))).take i).length = i := by rw [List.length_take, List.length_map, List.length_zipIdx]; omega
     obtain ⟨gl, ol, rfl, hca⟩ := src2_at hss.1 hp
     refine AU0 ?_
     refine JLs (e_loadSN (cs := enc2 p) rfl rfl (fun ww hww => hca _ al_rest ww hww) ?_)
     refine AU0 ?_
     refine JLs (e_alloc fun b24 => ?_)
     refine JLs (e_store 0 rfl rfl rfl (vs := enc2 p) rfl rfl rfl lE_ ?_)
     refine JL.cast (l' := (b24, isC 48 (enc2 p)) :: wAll b L (⟨T, kg, ((cs.zipIdx (T.rs.length + T.ls.length)).map fun x => newC x.1 x.2), ss, (((ss.zipIdx (T.rs.length + T.ls.length + cs.length)).map fun x => (⟨x.1, x.2, []⟩ : AcS))).take i, [], 0, [], T.rs.length + T.ls.length + cs.length + i, [], 0⟩ : WS) r) rfl ?_
     refine AU0 ?_
     refine JLs (e_call rfl rfl (draw_p [_] rfl (by show T.rs.length + T.ls.length + cs.length + i ≤ _; omega)) ?_)
     rintro v l' ⟨rfl, rfl⟩
     refine JLs (e_alloc fun b25 => ?_)
     refine JLs (e_store 0 rfl rfl rfl (vs := ck (kf (K (T.rs.length + T.ls.length + cs.length + i)))) rfl rfl rfl lE_ ?_)
     refine JL.cast (l' := (b25, isC 55 (ck (kf (K (T.rs.length + T.ls.length + cs.length + i))))) :: (b24, isC 48 (enc2 p)) :: wAll b ({ L with sm := true } : WL) (⟨T, kg, ((cs.zipIdx (T.rs.length + T.ls.length)).map fun x => newC x.1 x.2), ss, (((ss.zipIdx (T.rs.length + T.ls.length + cs.length)).map fun x => (⟨x.1, x.2, []⟩ : AcS))).take i, [], 0, [], T.rs.length + T.ls.length + cs.length + i + 1, [], 0⟩ : WS) r) rfl ?_
     have hw1 : WOk W (⟨T, kg, ((cs.zipIdx (T.rs.length + T.ls.length)).map fun x => newC x.1 x.2), ss, (((ss.zipIdx (T.rs.length + T.ls.length + cs.length)).map fun x => (⟨x.1, x.2, []⟩ : AcS))).take i, [], 0, [], T.rs.length + T.ls.length + cs.length + i + 1, [], 0⟩ : WS) ({ L with sm := true } : WL) := { hw with tt := hw.tt }
     obtain ⟨hpp, p1, hr1, ha1⟩ := atR_ok hw1 a1 b
     refine AU0 ?_
     refine JC.drawn 7 rfl mixed ?_
     refine JDp 0 rfl y_mv ?_
     refine JDp 1 rfl (y_fieldAddr rfl) ?_
     refine JDr 2 1 rfl rfl (r_load1 rfl rfl) ?_
     refine JDr 4 1 rfl rfl (r_loadA rfl lE_ rfl) ?_
     refine JDr 5 0 rfl rfl (r_loadA rfl lE_ rfl) ?_
     refine JDe 3 rfl (e_call rfl rfl (hr1 _ fun e he => List.mem_append_right [_, _] (al_mem e he)) ?_)
     rintro v l' ⟨rfl, rfl⟩
     refine ⟨tok_, ?_⟩
     refine JDe 6 rfl (e_call rfl rfl (ha1 [_, _] r _ rfl) ?_)
     rintro v l' ⟨rfl, KH1, hw2, rfl⟩
     refine ⟨tok_, ?_⟩
     refine JDd ?_
     refine AU0 ?_
     refine JLs (e_call rfl rfl RNew_ok ?_)
     rintro v l' ⟨rb, RH, rfl, hRB, rfl⟩
     refine JL.perm (l' := (b25, isC 55 (ck (kf (K (T.rs.length + T.ls.length + cs.length + i))))) :: (b24, isC 48 (enc2 p)) :: (RH ++ wAll b ({ L with KH := KH1, sm := true } : WL) (⟨T, ka, ((cs.zipIdx (T.rs.length + T.ls.length)).map fun x => newC x.1 x.2), ss, (((ss.zipIdx (T.rs.length + T.ls.length + cs.length)).map fun x => (⟨x.1, x.2, []⟩ : AcS))).take i, [], 0, [], T.rs.length + T.ls.length + cs.length + i + 1, [], 0⟩ : WS) r)) (perm_mid RH [_, _] _) ?_
     refine AU2 ?_
     refine JLs (e_call rfl rfl (Add2_ok hRB hpp (T.rs.length + T.ls.length + cs.length + i) [_, _] rfl) ?_)
     rintro v l' ⟨rfl, xb, kb, RH', hR', rfl⟩
     refine JL.cast (l' := (b25, isC 55 (ck (kf (K (T.rs.length + T.ls.length + cs.length + i))))) :: (b24, isC 48 (enc2 p)) :: (RH' ++ ((b, isC 81 (WL.c ({ L with KH := KH1, sm := true } : WL) (⟨T, ka, ((cs.zipIdx (T.rs.length + T.ls.length)).map fun x => newC x.1 x.2), ss, (((ss.zipIdx (T.rs.length + T.ls.length + cs.length)).map fun x => (⟨x.1, x.2, []⟩ : AcS))).take i, [], 0, [], T.rs.length + T.ls.length + cs.length + i + 1, [], 0⟩ : WS))) :: mE L (⟨T, ka, ((cs.zipIdx (T.rs.length + T.ls.length)).map fun x => newC x.1 x.2), ss, (((ss.zipIdx (T.rs.length + T.ls.length + cs.length)).map fun x => (⟨x.1, x.2, []⟩ : AcS))).take i, [], 0, [], T.rs.length + T.ls.length + cs.length + i + 1, [], 0⟩ : WS) :: spE L.sb true :: ((L.TH ++ (L.rl ++ (L.kl ++ (KH1 ++ (L.cl ++ (L.CH ++ (L.sl ++ (L.al ++ (L.AH ++ (L.NH ++ (L.acl ++ (L.AccH ++ L.isl)))))))))))) ++ r)))) rfl ?_
     refine JL.perm (l' := (b, isC 81 (WL.c ({ L with KH := KH1, sm := true } : WL) (⟨T, ka, ((cs.zipIdx (T.rs.length + T.ls.length)).map fun x => newC x.1 x.2), ss, (((ss.zipIdx (T.rs.length + T.ls.length + cs.length)).map fun x => (⟨x.1, x.2, []⟩ : AcS))).take i, [], 0, [], T.rs.length + T.ls.length + cs.length + i + 1, [], 0⟩ : WS))) :: (b24, isC 48 (enc2 p)) :: (b25, isC 55 (ck (kf (K (T.rs.length + T.ls.length + cs.length + i))))) :: (RH' ++ (mE L (⟨T, ka, ((cs.zipIdx (T.rs.length + T.ls.length)).map fun x => newC x.1 x.2), ss, (((ss.zipIdx (T.rs.length + T.ls.length + cs.length)).map fun x => (⟨x.1, x.2, []⟩ : AcS))).take i, [], 0, [], T.rs.length + T.ls.length + cs.length + i + 1, [], 0⟩ : WS) :: spE L.sb true :: (L.TH ++ (L.rl ++ (L.kl ++ (KH1 ++ (L.cl ++ (L.CH ++ (L.sl ++ (L.al ++ (L.AH ++ (L.NH ++ (L.acl ++ (L.AccH ++ (L.isl ++ r)))))))))))))))) prm_ ?_
     refine AU0 ?_
     have hT9 : TopoV W ((b, isC 81 (WL.c ({ L with KH := KH1, sm := true } : WL) (⟨T, ka, ((cs.zipIdx (T.rs.length + T.ls.length)).map fun x => newC x.1 x.2), ss, (((ss.zipIdx (T.rs.length + T.ls.length + cs.length)).map fun x => (⟨x.1, x.2, []⟩ : AcS))).take i, [], 0, [], T.rs.length + T.ls.length + cs.length + i + 1, [], 0⟩ : WS))) :: (b24, isC 48 (enc2 p)) :: (b25, isC 55 (ck (kf (K (T.rs.length + T.ls.length + cs.length + i))))) :: (mE L (⟨T, ka, ((cs.zipIdx (T.rs.length + T.ls.length)).map fun x => newC x.1 x.2), ss, (((ss.zipIdx (T.rs.length + T.ls.length + cs.length)).map fun x => (⟨x.1, x.2, []⟩ : AcS))).take i, [], 0, [], T.rs.length + T.ls.length + cs.length + i + 1, [], 0⟩ : WS) :: spE L.sb true :: (L.TH ++ (L.rl ++ (L.kl ++ (KH1 ++ (L.cl ++ (L.CH ++ (L.sl ++ (L.al ++ (L.AH ++ (L.NH ++ (L.acl ++ (L.AccH ++ (L.isl ++ r))))))))))))))) [.slice L.t1A T.rs.length L.t1c, L.t2, L.t3] T := hw2.t.mono fun e he => by simp [he]
     refine JC.drawn 12 rfl mixed ?_
     refine JDr 0 1 rfl rfl (r_loadA rfl lE_ rfl) ?_
     refine JDp 1 rfl y_mv ?_
     refine JDp 2 rfl (y_nilCheck rfl) ?_
     refine JDp 3 rfl (y_fieldAddr rfl) ?_
     refine JDr 4 0 rfl rfl (r_loadA rfl lE_ rfl) ?_
     refine JDp 5 rfl y_mv ?_
     refine JDe 6 rfl (e_call rfl rfl (Tr.perm (perm_mid [_, _, _] RH' _) (ANew_ok hok hpp hin hR' rfl hT9)) ?_)
     rintro v l' ⟨ab, aH, rfl, haB, rfl⟩
     refine ⟨tok_, ?_⟩
     refine JDp 7 rfl y_mv ?_
     refine JDp 8 rfl (y_extract rfl rfl) ?_
     refine JDp 9 rfl (y_extract rfl rfl) ?_
     refine JDp 10 rfl y_as ?_
     refine JDp 11 rfl y_as ?_
     refine JDd ?_
     refine RN.cast (l' := aH ++ ((b, isC 81 (WL.c ({ L with KH := KH1, sm := true } : WL) (⟨T, ka, ((cs.zipIdx (T.rs.length + T.ls.length)).map fun x => newC x.1 x.2), ss, (((ss.zipIdx (T.rs.length + T.ls.length + cs.length)).map fun x => (⟨x.1, x.2, []⟩ : AcS))).take i, [], 0, [], T.rs.length + T.ls.length + cs.length + i + 1, [], 0⟩ : WS))) :: (b24, isC 48 (enc2 p)) :: (b25, isC 55 (ck (kf (K (T.rs.length + T.ls.length + cs.length + i))))) :: (mE L (⟨T, ka, ((cs.zipIdx (T.rs.length + T.ls.length)).map fun x => newC x.1 x.2), ss, (((ss.zipIdx (T.rs.length + T.ls.length + cs.length)).map fun x => (⟨x.1, x.2, []⟩ : AcS))).take i, [], 0, [], T.rs.length + T.ls.length + cs.length + i + 1, [], 0⟩ : WS) :: spE L.sb true :: (L.TH ++ (L.rl ++ (L.kl ++ (KH1 ++ (L.cl ++ (L.CH ++ (L.sl ++ (L.al ++ (L.AH ++ (L.NH ++ (L.acl ++ (L.AccH ++ (L.isl ++ r)))))))))))))))) rfl ?_
     refine RN.perm (l' := (b24, isC 48 (enc2 p)) :: (b25, isC 55 (ck (kf (K (T.rs.length + T.ls.length + cs.length + i))))) :: ((b, isC 81 (WL.c ({ L with KH := KH1, sm := true } : WL) (⟨T, ka, ((cs.zipIdx (T.rs.length + T.ls.length)).map fun x => newC x.1 x.2), ss, (((ss.zipIdx (T.rs.length + T.ls.length + cs.length)).map fun x => (⟨x.1, x.2, []⟩ : AcS))).take i, [], 0, [], T.rs.length + T.ls.length + cs.length + i + 1, [], 0⟩ : WS))) :: (L.al ++ (aH ++ (mE L (⟨T, ka, ((cs.zipIdx (T.rs.length + T.ls.length)).map fun x => newC x.1 x.2), ss, (((ss.zipIdx (T.rs.length + T.ls.length + cs.length)).map fun x => (⟨x.1, x.2, []⟩ : AcS))).take i, [], 0, [], T.rs.length + T.ls.length + cs.length + i + 1, [], 0⟩ : WS) :: spE L.sb true :: (L.TH ++ (L.rl ++ (L.kl ++ (KH1 ++ (L.cl ++ (L.CH ++ (L.sl ++ (L.AH ++ (L.NH ++ (L.acl ++ (L.AccH ++ (L.isl ++ r))))))))))))))))) prm_ ?_
     refine RN.sub (List.sublist_append_right [_, _] _) ?_
     refine AU1 ?_
     refine JLs (e_buildSlice (cells := [ptr ab]) [ptr ab] rfl lE_ rfl (fun u hu => by cases List.mem_singleton.1 hu; rfl) rfl fun bs => ?_)
     have hwc : Lg.Own 87 1 (.slice L.aA ((((ss.zipIdx (T.rs.length + T.ls.length + cs.length)).map fun x => (⟨x.1, x.2, []⟩ : AcS))).take i).length L.ac) ((((ss.zipIdx (T.rs.length + T.ls.length + cs.length)).map fun x => (⟨x.1, x.2, []⟩ : AcS))).take i).length (L.aid.map ptr) L.al := hw.a
     refine JLs (e_appendP [_, _] L.al rfl rfl hwc rfl (news := [ptr ab]) rfl (Src.whole (List.mem_cons_self ..)) (fun u hu => by cases List.mem_singleton.1 hu; rfl) (by omega) (by unfold maxLen; omega) fun v' la ho1 _ => ?_)
     obtain ⟨g, c, rfl, -, -, -⟩ := De.own_some (id ho1) (Nat.succ_pos _)
     refine AU0 ?_
     refine JLs (e_store 1 rfl rfl rfl (vs := [.slice (some ⟨g, 0, none⟩) (((((ss.zipIdx (T.rs.length + T.ls.length + cs.length)).map fun x => (⟨x.1, x.2, []⟩ : AcS))).take i).length + 1) c]) rfl rfl rfl lE_ ?_)
     refine JL.cast (l' := _ :: (b, isC 81 [.slice L.t1A T.rs.length L.t1c, L.t2, L.t3, .slice L.rA ka.length L.rc, .slice L.kA ka.length L.kc, .slice L.cA (((cs.zipIdx (T.rs.length + T.ls.length)).map fun x => newC x.1 x.2)).length L.cc, .slice L.sA ss.length L.sc, .slice (some ⟨g, 0, none⟩) (((((ss.zipIdx (T.rs.length + T.ls.length + cs.length)).map fun x => (⟨x.1, x.2, []⟩ : AcS))).take i).length + 1) c, ptr L.nb, .map (some L.mb), iv ((T.rs.length + T.ls.length + cs.length + i + 1 : Nat) : Int), ptr L.sb, .slice L.acA 0 L.acc, .slice L.isA 0 L.isc, nl, .map (some L.ob)]) :: (la ++ (aH ++ (mE L (⟨T, ka, ((cs.zipIdx (T.rs.length + T.ls.length)).map fun x => newC x.1 x.2), ss, (((ss.zipIdx (T.rs.length + T.ls.length + cs.length)).map fun x => (⟨x.1, x.2, []⟩ : AcS))).take i, [], 0, [], T.rs.length + T.ls.length + cs.length + i + 1, [], 0⟩ : WS) :: spE L.sb true :: (L.TH ++ (L.rl ++ (L.kl ++ (KH1 ++ (L.cl ++ (L.CH ++ (L.sl ++ (L.AH ++ (L.NH ++ (L.acl ++ (L.AccH ++ (L.isl ++ r)))))))))))))))) rfl ?_
     refine JL.sub (List.sublist_append_right [_] _) ?_
     have hw3 : WOk W (⟨T, ka, ((cs.zipIdx (T.rs.length + T.ls.length)).map fun x => newC x.1 x.2), ss, (((ss.zipIdx (T.rs.length + T.ls.length + cs.length)).map fun x => (⟨x.1, x.2, []⟩ : AcS))).take (i + 1), [], 0, [], T.rs.length + T.ls.length + cs.length + i + 1, [], 0⟩ : WS) ({ L with KH := KH1, sm := true, aA := some ⟨g, 0, none⟩, ac := c, al := la, aid := L.aid ++ [ab], AH := L.AH ++ aH } : WL) := by
      rw [take_at hcl]
      exact snocA hw2 (by show ((((ss.zipIdx (T.rs.length + T.ls.length + cs.length)).map fun x => (⟨x.1, x.2, []⟩ : AcS))).take i).length < 3; omega) haB ho1
     refine JL.perm (l' := wAll b ({ L with KH := KH1, sm := true, aA := some ⟨g, 0, none⟩, ac := c, al := la, aid := L.aid ++ [ab], AH := L.AH ++ aH } : WL) (⟨T, ka, ((cs.zipIdx (T.rs.length + T.ls.length)).map fun x => newC x.1 x.2), ss, (((ss.zipIdx (T.rs.length + T.ls.length + cs.length)).map fun x => (⟨x.1, x.2, []⟩ : AcS))).take (i + 1), [], 0, [], T.rs.length + T.ls.length + cs.length + i + 1, [], 0⟩ : WS) r) ?_ ?_
     ·have he : wE b ({ L with KH := KH1, sm := true, aA := some ⟨g, 0, none⟩, ac := c, al := la, aid := L.aid ++ [ab], AH := L.AH ++ aH } : WL) (⟨T, ka, ((cs.zipIdx (T.rs.length + T.ls.length)).map fun x => newC x.1 x.2), ss, (((ss.zipIdx (T.rs.length + T.ls.length + cs.length)).map fun x => (⟨x.1, x.2, []⟩ : AcS))).take (i + 1), [], 0, [], T.rs.length + T.ls.length + cs.length + i + 1, [], 0⟩ : WS) = (b, isC 81 [.slice L.t1A T.rs.length L.t1c, L.t2, L.t3, .slice L.rA ka.length L.rc, .slice L.kA ka.length L.kc, .slice L.cA (((cs.zipIdx (T.rs.length + T.ls.length)).map fun x => newC x.1 x.2)).length L.cc, .slice L.sA ss.length L.sc, .slice (some ⟨g, 0, none⟩) (((((ss.zipIdx (T.rs.length + T.ls.length + cs.length)).map fun x => (⟨x.1, x.2, []⟩ : AcS))).take i).length + 1) c, ptr L.nb, .map (some L.mb), iv ((T.rs.length + T.ls.length + cs.length + i + 1 : Nat) : Int), ptr L.sb, .slice L.acA 0 L.acc, .slice L.isA 0 L.isc, nl, .map (some L.ob)]) := by
       have hlc' : ((((ss.zipIdx (T.rs.length + T.ls.length + cs.length)).map fun x => (⟨x.1, x.2, []⟩ : AcS))).take (i + 1)).length = i + 1 := by rw [List.length_take, List.length_map, List.length_zipIdx]; omega
       unfold wE WL.c; dsimp only; rw [hlc', hlc]; rfl
      unfold wAll WL.H
      rw [he]
      show List.Perm _ ((b, isC 81 [.slice L.t1A T.rs.length L.t1c, L.t2, L.t3, .slice L.rA ka.length L.rc, .slice L.kA ka.length L.kc, .slice L.cA (((cs.zipIdx (T.rs.length + T.ls.length)).map fun x => newC x.1 x.2)).length L.cc, .slice L.sA ss.length L.sc, .slice (some ⟨g, 0, none⟩) (((((ss.zipIdx (T.rs.length + T.ls.length + cs.length)).map fun x => (⟨x.1, x.2, []⟩ : AcS))).take i).length + 1) c, ptr L.nb, .map (some L.mb), iv ((T.rs.length + T.ls.length + cs.length + i + 1 : Nat) : Int), ptr L.sb, .slice L.acA 0 L.acc, .slice L.isA 0 L.isc, nl, .map (some L.ob)]) :: mE L (⟨T, ka, ((cs.zipIdx (T.rs.length + T.ls.length)).map fun x => newC x.1 x.2), ss, (((ss.zipIdx (T.rs.length + T.ls.length + cs.length)).map fun x => (⟨x.1, x.2, []⟩ : AcS))).take i, [], 0, [], T.rs.length + T.ls.length + cs.length + i + 1, [], 0⟩ : WS) :: spE L.sb true :: ((L.TH ++ (L.rl ++ (L.kl ++ (KH1 ++ (L.cl ++ (L.CH ++ (L.sl ++ (la ++ ((L.AH ++ aH) ++ (L.NH ++ (L.acl ++ (L.AccH ++ L.isl)))))))))))) ++ r))
      exact prm_
     refine AU0 ?_
     exact RN.loop (m' := m - 1) (by omega) ⟨i + 1, ka, ({ L with KH := KH1, sm := true, aA := some ⟨g, 0, none⟩, ac := c, al := la, aid := L.aid ++ [ab], AH := L.AH ++ aH } : WL), by omega, ⟨rfl, rfl, rfl, rfl, trivial⟩, a2, hw3, rfl⟩
    ·obtain rfl : i = ss.length := by omega
     rw [List.drop_length] at hus
     obtain rfl : kg = kd3 := Option.some.inj hus
     rw [List.take_of_length_le (by rw [List.length_map, List.length_zipIdx]; exact Nat.le_refl _)] at hw ⊢
     refine AU0 ?_
     exact JC.ret (RT.two rfl rfl (v := ptr b) (v' := iv 0) rfl rfl ⟨b, _, rfl, ⟨L, hw, rfl⟩, rfl⟩)
end Go.Proofs.YtbalcgjphkdecaaGreatDoor.To
namespace Go.Proofs.YtbalcgjphkdecaaGreatDoor.To
open Go.RowKit Go.Lg
set_option maxRecDepth 100000
attribute [local irreducible] JC JL JD RN RT Eff Yld YldIf Tr partsL okR splitL wordB joinD fit betweenS laidS viaS De.wrapB De.num De.clampI K Se.sealB Pa.byts Au.byts RP.byts Mg.byts Se.inc tillM Sp.kst
theorem CloneA_ok {A : Option Addr} {m c : Nat} {xs : List Value} {W : World} {r : List Ent} (hl : xs.length = m * 39) (hm : m ≤ 1000000) (h1 : ∀ u ∈ xs, u.oneCell' = true) (hs : Src W r A xs) (hA : A = none → m = 0 ∧ c = 0) :
  Tr Pg 28 #[.slice A m c] W r fun v l' => ∃ le, Lg.Own 57 39 v m xs le ∧ l' = le ++ r := by
 cases A with
 | none =>
  obtain ⟨rfl, rfl⟩ := hA rfl
  obtain rfl : xs = [] := List.eq_nil_of_length_eq_zero (by simpa using hl)
  refine Tr.of_code (args := [_]) Tryz.func28 rfl Tryz.ntmps28 lE_ ?_
  refine AU1 ?_
  exact JC.ret (RT.one rfl rfl (by conv => lhs; whnf) ⟨[], Lg.Own.nil _ _, rfl⟩)
 | some a =>
  refine Tr.of_code (args := [_]) Tryz.func28 rfl Tryz.ntmps28 lE_ ?_
  refine AU1 ?_
  refine JLs (e_buildSlice [] rfl lE_ rfl (by simp) rfl fun b => ?_)
  refine AU1 ?_
  refine JLs (e_appendP [] [_] rfl rfl (n := 0) (xs := []) ⟨rfl, .inr ⟨b, 0, rfl, Nat.le_refl _, Nat.zero_le _, rfl⟩⟩ rfl (by simpa using hl) (hs.mono fun e he => List.mem_cons_of_mem _ he) h1 (by omega) (by unfold maxLen; omega) fun v' le' ho hn => ?_)
  refine AU1 ?_
  exact JC.ret (RT.one rfl rfl (by conv => lhs; whnf) ⟨le', by simpa using ho, rfl⟩)
def AcV (W : World) (le : List Ent) (v : Value) : List AccS → Prop
 | [] => ∃ A c, v = .slice A 0 c
 | [x] => ∃ g cap A c, v = .slice (some ⟨g, 0, none⟩) 1 cap ∧ (g, isR 57 (cap * 39) (accC x (.slice A x.tr.length c))) ∈ le ∧ SlV W le A x.tr.length c (x.tr.map sv)
 | _ => False
theorem Accepts_ok {w : WS} {b : Nat} {H r : List Ent} {W : World} (hB : WorldB W b w H) (h1 : w.acc.length ≤ 1) (h2 : ∀ x ∈ w.acc, x.tr.length ≤ 1000) :
  Tr Pg 9 #[ptr b] W (H ++ r) fun v l' => ∃ le, AcV W le v w.acc ∧ l' = le ++ (H ++ r) := by
 obtain ⟨L, hw, rfl⟩ := hB
 obtain ⟨A', c', he, hs⟩ := SlV.own (W := W) hw.ac
 injection he with e1 _ e3
 subst e1 e3
 have hal : L.acs.length = w.acc.length := by rw [← hw.acs, List.length_map]
 refine Tr.of_code (args := [_]) Tryz.func9 rfl Tryz.ntmps9 lE_ ?_
 unfold wE
 refine AU1 ?_
 refine JLs (e_call rfl rfl (CloneA_ok (xs := L.acs.flatMap acc39) (by rw [row_len acc39 acc39_len, hal]) (by omega) (fun u hu => by
  obtain ⟨y, hy, hu⟩ := List.mem_flatMap.1 hu
  obtain ⟨Ay, cy, hy2, -⟩ := hw.acv y hy
  unfold acc39 at hu
  rw [hy2] at hu
  exact List.all_eq_true.1 (show (accC y.1 (.slice Ay y.1.tr.length cy)).all (·.oneCell') = true from rfl) u hu) (hs.1.mono fun e he => by simp [WL.H, he]) hs.2.2) ?_)
 rintro v l' ⟨le1, ho1, rfl⟩
 cases hacc : w.acc with
 | nil =>
  have hn : w.acc.length = 0 := by rw [hacc]; rfl
  rw [hn] at ho1
  obtain ⟨A1, c1, rfl, -⟩ := SlV.own (W := W) ho1
  refine JL.cast (l' := le1 ++ (((b, isC 81 (L.c w)) :: mE L w :: spE L.sb L.sm :: (L.H ++ r)))) rfl ?_
  refine AU0 ?_
  refine JC.loop (fun m f l => FrOk f [(3, .slice A1 0 c1), (14, iv 0), (15, iv 0)] ∧ l = le1 ++ (((b, isC 81 (L.c w)) :: mE L w :: spE L.sb L.sm :: (L.H ++ r)))) 0 ?_ ?_
  ·exact ⟨⟨rfl, rfl, rfl, trivial⟩, rfl⟩
  rintro m f l ⟨hf, rfl⟩
  refine JC.frame _ hf fun f' => ?_
  refine AU0 ?_
  exact JC.ret (RT.one rfl rfl (v := .slice A1 0 c1) rfl ⟨le1, ⟨A1, c1, rfl⟩, rfl⟩)
 | cons x t =>
  have hn : w.acc.length = 1 := by rw [hacc] at h1 ⊢; simp only [List.length_cons] at h1 ⊢; omega
  obtain rfl : t = [] := by rw [hacc] at hn; exact List.eq_nil_of_length_eq_zero (by simpa using hn)
  obtain ⟨y, hy, hyx⟩ : ∃ y, L.acs = [y] ∧ y.1 = x := by
   have := hw.acs
   rw [hacc] at this
   match L.acs, this with
   | [y], h => exact ⟨y, rfl, by simpa using h⟩
  obtain ⟨TA, tc, hy2, hsv⟩ := hw.acv y (by rw [hy]; exact List.mem_cons_self ..)
  have hx : L.acs.flatMap acc39 = accC x (.slice TA x.tr.length tc) := by rw [hy, List.flatMap_singleton]; unfold acc39; rw [hy2, hyx]
  rw [hyx] at hsv
  have hx2 := h2 x (by rw [hacc]; exact List.mem_cons_self ..)
  rw [hn, hx] at ho1
  obtain ⟨g, cap, rfl, hc1, hc2, rfl⟩ := De.own_some ho1 (by omega)
  refine JL.cast (l' := (g, isR 57 (cap * 39) (accC x (.slice TA x.tr.length tc))) :: ((b, isC 81 (L.c w)) :: mE L w :: spE L.sb L.sm :: (L.H ++ r))) rfl ?_
  refine AU0 ?_
  refine JC.loop (fun m f l => (m = 1 ∧ FrOk f [(3, .slice (some ⟨g, 0, none⟩) 1 cap), (13, .slice (some ⟨g, 0, none⟩) 1 cap), (14, iv 1), (15, iv 0)] ∧ l = (g, isR 57 (cap * 39) (accC x (.slice TA x.tr.length tc))) :: ((b, isC 81 (L.c w)) :: mE L w :: spE L.sb L.sm :: (L.H ++ r))) ∨ (m = 0 ∧ ∃ E1 d1 le2, FrOk f [(3, .slice (some ⟨g, 0, none⟩) 1 cap), (14, iv 1), (15, iv 1)] ∧ SlV W le2 E1 x.tr.length d1 (x.tr.map sv) ∧ l = (g, isR 57 (cap * 39) (accC x (.slice E1 x.tr.length d1))) :: (le2 ++ ((b, isC 81 (L.c w)) :: mE L w :: spE L.sb L.sm :: (L.H ++ r))))) 1 ?_ ?_
  ·exact .inl ⟨rfl, ⟨rfl, rfl, rfl, rfl, trivial⟩, rfl⟩
  rintro m f l (⟨rfl, hf, rfl⟩ | ⟨rfl, E1, d1, le2, hf, hs2, rfl⟩)
  ·refine JC.frame _ hf fun f' => ?_
   refine AU0 ?_
   refine JL.read 0 rfl rfl (r_loadRA (v := accC x (.slice TA x.tr.length tc)) rfl lE_ rfl) ?_
   refine JLs (e_alloc fun b5 => ?_)
   refine AU0 ?_
   refine JLs (e_store 0 rfl rfl rfl (vs := accC x (.slice TA x.tr.length tc)) rfl rfl rfl lE_ ?_)
   refine JL.cast (l' := (b5, isC 57 (accC x (.slice TA x.tr.length tc))) :: (g, isR 57 (cap * 39) (accC x (.slice TA x.tr.length tc))) :: ((b, isC 81 (L.c w)) :: mE L w :: spE L.sb L.sm :: (L.H ++ r))) rfl ?_
   refine AU1 ?_
   refine JLs (e_call rfl rfl (CloneS_ok (by rw [List.length_map, Nat.mul_one]) (by omega) (fun u hu => by obtain ⟨y, _, rfl⟩ := List.mem_map.1 hu; rfl) (hsv.1.mono fun e he => by simp [WL.H, he]) hsv.2.2) ?_)
   rintro v l' ⟨le2, ho2, rfl⟩
   obtain ⟨E1, d1, rfl, hs2⟩ := SlV.own (W := W) ho2
   refine AU0 ?_
   refine JL.perm (l' := (b5, isC 57 (accC x (.slice TA x.tr.length tc))) :: (g, isR 57 (cap * 39) (accC x (.slice TA x.tr.length tc))) :: (le2 ++ ((b, isC 81 (L.c w)) :: mE L w :: spE L.sb L.sm :: (L.H ++ r)))) (perm_mid le2 [_, _] _) ?_
   refine JLs (e_storeR 1 rfl (o := 0 + 0 * 39 + 36) (n := 1) (v := .slice E1 x.tr.length d1) rfl rfl rfl (Array.all_eq_true_iff_forall_mem.2 fun u hu => by cases List.mem_singleton.1 (Array.mem_toList_iff.2 hu); rfl) lE_ ?_)
   refine JL.cast (l' := (b5, isC 57 (accC x (.slice TA x.tr.length tc))) :: (g, isR 57 (cap * 39) (accC x (.slice E1 x.tr.length d1))) :: (le2 ++ ((b, isC 81 (L.c w)) :: mE L w :: spE L.sb L.sm :: (L.H ++ r)))) rfl ?_
   refine JL.sub (List.sublist_cons_self _ _) ?_
   refine AU0 ?_
   exact RN.loop (m' := 0) (by omega) (.inr ⟨rfl, E1, d1, le2, ⟨rfl, rfl, rfl, trivial⟩, hs2, rfl⟩)
  ·refine JC.frame _ hf fun f' => ?_
   refine AU0 ?_
   exact JC.ret (RT.one rfl rfl (v := .slice (some ⟨g, 0, none⟩) 1 cap) rfl ⟨(g, isR 57 (cap * 39) (accC x (.slice E1 x.tr.length d1))) :: le2, ⟨g, cap, E1, d1, rfl, List.mem_cons_self .., hs2.mono fun e he => List.mem_cons_of_mem _ he⟩, rfl⟩)
end Go.Proofs.YtbalcgjphkdecaaGreatDoor.To
namespace Go.Proofs.YtbalcgjphkdecaaGreatDoor.To
open Go.RowKit Go.Lg
set_option maxRecDepth 100000
def rA : S := [65, 46, 69, 68, 85]
def rE : S := [69, 68, 85]
def rB : S := [66, 46, 69, 68, 85]
def rC : S := [67, 79, 77]
def rD : S := [67, 46, 67, 79, 77]
def fl : List P2 := [(rA, rE), (rE, rB), (rE, rC), (rC, rD)]
def both (z : P2) : List P2 := [z, (z.2, z.1)]
def forestT : Topo := ⟨[rA, rE, rB, rC, rD], fl.flatMap both, []⟩
def clsP : List P2 := [(rA, [97, 110, 110]), (rD, [99, 121]), (rB, [98, 111, 98])]
def svsP : List P2 := [(rB, [109, 97, 105, 108]), (rD, [119, 101, 98]), (rE, [104, 111, 115, 116])]
attribute [local irreducible] JC JL JD RN RT Eff Yld YldIf Tr partsL okR splitL wordB joinD fit betweenS laidS viaS De.wrapB De.num De.clampI K Se.sealB Pa.byts Au.byts RP.byts Mg.byts Se.inc tillM Sp.kst
theorem link_cell {xs : List P2} {i : Nat} {z : P2} (hi : xs[i]? = some z) (j : Nat) (hj : j < 2 := by decide) : (xs.flatMap enc2)[0 + i * 2 + j]? = (enc2 z)[j]? := by
 rw [Nat.zero_add]; exact row_at enc2 enc2_len _ hi hj
theorem enc2_one1 {z : P2} : ∀ u ∈ enc2 z, u.oneCell' = true := fun u hu => enc2_one [z] u (by simpa using hu)
theorem forest_ok {W : World} {r : List Ent} : Tr Pg 16 #[] W r fun v l' => ∃ u1 u2 u3 TH, v = .agg #[u1, u2, u3] ∧ TopoV W TH [u1, u2, u3] forestT ∧ l' = TH ++ r := by
 refine Tr.of_code (args := []) Tryz.func16 rfl Tryz.ntmps16 lE_ ?_
 refine AU0 ?_
 refine JLs (e_alloc fun b0 => ?_)
 refine AU0 ?_
 refine JLs (e_buildSlice (cells := [rA, rE, rB, rC, rD].map sv) ([rA, rE, rB, rC, rD].map sv) rfl lE_ rfl (fun u hu => by obtain ⟨y, _, rfl⟩ := List.mem_map.1 hu; rfl) rfl fun bA => ?_)
 refine JLp (y_build (cells := #[.slice (some ⟨bA, 0, none⟩) 5 5, .slice none 0 0, .slice none 0 0]) (by kernel_rfl)) ?_
 refine JLs (e_alloc fun b1 => ?_)
 refine AU0 ?_
 refine JLs (e_store 0 rfl rfl rfl (vs := [.slice (some ⟨bA, 0, none⟩) 5 5, .slice none 0 0, .slice none 0 0]) rfl rfl rfl lE_ ?_)
 refine AU0 ?_
 refine JLp (y_build (cells := #[sv rA, sv rE]) (by kernel_rfl)) ?_
 refine JLp (y_build (cells := #[sv rE, sv rB]) (by kernel_rfl)) ?_
 refine JLp (y_build (cells := #[sv rE, sv rC]) (by kernel_rfl)) ?_
 refine JLp (y_build (cells := #[sv rC, sv rD]) (by kernel_rfl)) ?_
 refine JLs (e_buildSlice (cells := fl.flatMap enc2) (fl.map fun z => .agg (enc2 z).toArray) rfl lE_ rfl (fun u hu => by obtain ⟨y, _, rfl⟩ := List.mem_map.1 hu; rfl) rfl fun b2 => ?_)
 refine AU0 ?_
 refine JC.cast (l' := (b2, isR 44 (4 * 2) (fl.flatMap enc2)) :: (b1, isC 43 [.slice (some ⟨bA, 0, none⟩) 5 5, .slice none 0 0, .slice none 0 0]) :: (bA, isR 9 (5 * 1) ([rA, rE, rB, rC, rD].map sv)) :: (b0, isC 43 [.slice none 0 0, .slice none 0 0, .slice none 0 0]) :: r) rfl ?_
 refine JC.perm (List.Perm.swap _ _ _) ?_
 refine JC.loop (fun m f l' => ∃ (i : Nat) (A : Option Addr) (c : Nat) (lk : List Ent), i + m = 4 ∧ FrOk f [(0, ptr b0), (1, ptr b1), (2, .slice (some ⟨b2, 0, none⟩) 4 4), (3, iv (i : Int))] ∧ Lg.Own 44 2 (.slice A (2 * i) c) (2 * i) (((fl.take i).flatMap both).flatMap enc2) lk ∧ l' = (b1, isC 43 [.slice (some ⟨bA, 0, none⟩) 5 5, .slice A (2 * i) c, .slice none 0 0]) :: (lk ++ ((b2, isR 44 (4 * 2) (fl.flatMap enc2)) :: (bA, isR 9 (5 * 1) ([rA, rE, rB, rC, rD].map sv)) :: (b0, isC 43 [.slice none 0 0, .slice none 0 0, .slice none 0 0]) :: r))) 4 ?_ ?_
 ·exact ⟨0, none, 0, [], by omega, ⟨rfl, rfl, rfl, rfl, trivial⟩, Lg.Own.nil .., rfl⟩
 rintro m f l' ⟨i, A, c, lk, hm, hf, ho, rfl⟩
 refine JC.frame _ hf fun f' => ?_
 by_cases hi : i < 4
 ·obtain ⟨z, hz⟩ : ∃ z, fl[i]? = some z := ⟨_, List.getElem?_eq_getElem hi⟩
  have hg := row_get_at enc2 enc2_len hz
  refine JC.perm (l' := (b2, isR 44 (4 * 2) (fl.flatMap enc2)) :: (b1, isC 43 [.slice (some ⟨bA, 0, none⟩) 5 5, .slice A (2 * i) c, .slice none 0 0]) :: (lk ++ ((bA, isR 9 (5 * 1) ([rA, rE, rB, rC, rD].map sv)) :: (b0, isC 43 [.slice none 0 0, .slice none 0 0, .slice none 0 0]) :: r))) prm_ ?_
  refine AU0 ?_
  refine JC.drawn 21 rfl mixed ?_
  refine JDp 0 rfl (y_fieldAddr rfl) ?_
  refine JDr 1 1 rfl rfl (r_load1 rfl rfl) ?_
  refine JDp 2 rfl y_mv ?_
  refine JDp 3 rfl y_mv ?_
  refine JDp 4 rfl (y_index (j := i) rfl rfl (by omega)) ?_
  refine JDr 5 0 rfl rfl (r_loadRA (v := enc2 z) rfl (by show 0 + i * 2 + 2 ≤ 8; omega) hg) ?_
  refine JDp 6 rfl y_mv ?_
  refine JDp 7 rfl y_mv ?_
  refine JDp 8 rfl (y_index (j := i) rfl rfl (by omega)) ?_
  refine JDp 9 rfl (y_indexA (j := 1) rfl rfl (by omega)) ?_
  refine JDr 10 0 rfl rfl (r_loadR1 (v := sv z.2) rfl (link_cell hz 1)) ?_
  refine JDp 11 rfl y_mv ?_
  refine JDp 12 rfl y_mv ?_
  refine JDp 13 rfl (y_index (j := i) rfl rfl (by omega)) ?_
  refine JDp 14 rfl (y_indexA (j := 0) rfl rfl (by omega)) ?_
  refine JDr 15 0 rfl rfl (r_loadR1 (v := sv z.1) rfl (link_cell hz 0)) ?_
  refine JDp 16 rfl (y_build (cells := #[sv z.2, sv z.1]) (by kernel_rfl)) ?_
  refine JDe 17 rfl (e_buildSlice (cells := enc2 z ++ enc2 (z.2, z.1)) [.agg (enc2 z).toArray, .agg (enc2 (z.2, z.1)).toArray] rfl lE_ rfl (fun u hu => by simp only [List.mem_cons, List.not_mem_nil, or_false] at hu; rcases hu with rfl | rfl <;> rfl) rfl fun bs => ⟨tok_, ?_⟩)
  refine JDe 18 rfl (e_appendP [_, _, _] lk rfl rfl ho rfl (news := enc2 z ++ enc2 (z.2, z.1)) rfl (Src.whole (List.mem_cons_self ..)) (fun u hu => by simp only [List.mem_append] at hu; rcases hu with h | h <;> exact enc2_one1 u h) (by omega) (by unfold maxLen; omega) fun v' lk' ho' _ => ⟨tok_, ?_⟩)
  obtain ⟨g, c', rfl, -, -, -⟩ := De.own_some (id ho') (Nat.succ_pos _)
  refine JDp 19 rfl (y_fieldAddr rfl) ?_
  refine JDe 20 rfl (e_store 2 rfl rfl rfl (vs := [.slice (some ⟨g, 0, none⟩) (2 * i + 2) c']) rfl rfl rfl lE_ ⟨tok_, ?_⟩)
  refine JDd ?_
  refine RN.cast (l' := _ :: (b2, isR 44 (4 * 2) (fl.flatMap enc2)) :: (b1, isC 43 [.slice (some ⟨bA, 0, none⟩) 5 5, .slice (some ⟨g, 0, none⟩) (2 * i + 2) c', .slice none 0 0]) :: (lk' ++ ((bA, isR 9 (5 * 1) ([rA, rE, rB, rC, rD].map sv)) :: (b0, isC 43 [.slice none 0 0, .slice none 0 0, .slice none 0 0]) :: r))) rfl ?_
  refine RN.sub (List.sublist_append_right [_] _) ?_
  refine RN.perm (l' := (b1, isC 43 [.slice (some ⟨bA, 0, none⟩) 5 5, .slice (some ⟨g, 0, none⟩) (2 * i + 2) c', .slice none 0 0]) :: (lk' ++ ((b2, isR 44 (4 * 2) (fl.flatMap enc2)) :: (bA, isR 9 (5 * 1) ([rA, rE, rB, rC, rD].map sv)) :: (b0, isC 43 [.slice none 0 0, .slice none 0 0, .slice none 0 0]) :: r))) prm_ ?_
  refine AU0 ?_
  refine RN.loop (m' := m - 1) (by omega) ⟨i + 1, some ⟨g, 0, none⟩, c', lk', by omega, ⟨rfl, rfl, rfl, rfl, trivial⟩, ?_, rfl⟩
  rw [take_at hz, List.flatMap_append, List.flatMap_append]
  exact ho'
 ·obtain rfl : i = 4 := by omega
  obtain ⟨g, c', he, hc1, hc2, rfl⟩ := De.own_some ho (by omega)
  injection he with e1 _ e3
  subst e1 e3
  refine AU1 ?_
  refine JLs (e_store 4 rfl rfl rfl (vs := [.slice (some ⟨bA, 0, none⟩) 5 5, .slice (some ⟨g, 0, none⟩) 8 c, .slice none 0 0]) rfl rfl rfl lE_ ?_)
  refine JL.cast (l' := _ :: (g, isR 44 (c * 2) (forestT.ls.flatMap enc2)) :: (b2, isR 44 (4 * 2) (fl.flatMap enc2)) :: (bA, isR 9 (5 * 1) ([rA, rE, rB, rC, rD].map sv)) :: (b0, isC 43 [.slice (some ⟨bA, 0, none⟩) 5 5, .slice (some ⟨g, 0, none⟩) 8 c, .slice none 0 0]) :: r) rfl ?_
  refine AU0 ?_
  refine JC.ret (ret_cell rfl rfl 4 rfl rfl rfl (List.Sublist.cons _ (List.Sublist.refl _)) ⟨_, _, _, [(g, isR 44 (c * 2) (forestT.ls.flatMap enc2)), (b2, isR 44 (4 * 2) (fl.flatMap enc2)), (bA, isR 9 (5 * 1) ([rA, rE, rB, rC, rD].map sv)), _], rfl, ⟨some ⟨bA, 0, none⟩, 5, some ⟨g, 0, none⟩, c, none, 0, [], rfl, rfl, ⟨Src.whole (List.mem_cons_of_mem _ (List.mem_cons_of_mem _ (List.mem_cons_self ..))), by decide, fun h => by cases h⟩, ⟨Src.whole (List.mem_cons_self ..), hc1, fun h => by cases h⟩, ⟨Src.nil .., Nat.le_refl _, fun _ => ⟨rfl, rfl⟩⟩, fun x hx => by cases hx⟩, rfl⟩)
theorem people_ok {W : World} {r : List Ent} : Tr Pg 15 #[] W r fun v l' => ∃ b1 b2, v = .tuple #[.slice (some ⟨b1, 0, none⟩) 3 3, .slice (some ⟨b2, 0, none⟩) 3 3] ∧ l' = (b2, isR 48 (3 * 2) (svsP.flatMap enc2)) :: (b1, isR 48 (3 * 2) (clsP.flatMap enc2)) :: r := by
 refine Tr.of_code (args := []) Tryz.func15 rfl Tryz.ntmps15 lE_ ?_
 refine AU0 ?_
 refine JLp (y_build (cells := #[sv rA, sv [97, 110, 110]]) (by kernel_rfl)) ?_
 refine JLp (y_build (cells := #[sv rD, sv [99, 121]]) (by kernel_rfl)) ?_
 refine JLp (y_build (cells := #[sv rB, sv [98, 111, 98]]) (by kernel_rfl)) ?_
 refine JLs (e_buildSlice (cells := clsP.flatMap enc2) (clsP.map fun z => .agg (enc2 z).toArray) rfl lE_ rfl (fun u hu => by obtain ⟨y, _, rfl⟩ := List.mem_map.1 hu; rfl) rfl fun b1 => ?_)
 refine JLp (y_build (cells := #[sv rB, sv [109, 97, 105, 108]]) (by kernel_rfl)) ?_
 refine JLp (y_build (cells := #[sv rD, sv [119, 101, 98]]) (by kernel_rfl)) ?_
 refine JLp (y_build (cells := #[sv rE, sv [104, 111, 115, 116]]) (by kernel_rfl)) ?_
 refine JLs (e_buildSlice (cells := svsP.flatMap enc2) (svsP.map fun z => .agg (enc2 z).toArray) rfl lE_ rfl (fun u hu => by obtain ⟨y, _, rfl⟩ := List.mem_map.1 hu; rfl) rfl fun b2 => ?_)
 refine AU0 ?_
 exact JC.ret (RT.two rfl rfl (v := .slice (some ⟨b1, 0, none⟩) 3 3) (v' := .slice (some ⟨b2, 0, none⟩) 3 3) rfl rfl ⟨b1, b2, rfl, rfl⟩)
end Go.Proofs.YtbalcgjphkdecaaGreatDoor.To
namespace Go.Proofs.YtbalcgjphkdecaaGreatDoor.To
open Go.RowKit Go.Lg
set_option maxRecDepth 100000
attribute [local irreducible] JC JL JD RN RT Eff Yld YldIf Tr partsL okR splitL wordB joinD fit betweenS laidS viaS De.wrapB De.num De.clampI K Se.sealB Pa.byts Au.byts RP.byts Mg.byts Se.inc tillM Sp.kst
theorem wB_mem {W : World} {b : Nat} {w : WS} {H r : List Ent} {L : WL} (hH : H = wE b L w :: mE L w :: spE L.sb L.sm :: L.H) : wE b L w ∈ H ++ r := by subst hH; exact List.mem_append_left _ (List.mem_cons_self ..)
theorem lenW_ok {b : Nat} {w : WS} {L : WL} {W : World} (hw : WOk W w L) {H r : List Ent} (hH : H = wE b L w :: mE L w :: spE L.sb L.sm :: L.H) : Tr Pg 27 #[ptr L.nb] W (H ++ r) fun v l' => v = iv (w.net.length : Int) ∧ l' = H ++ r := by
 subst hH
 refine Tr.perm (l' := L.NH ++ (wE b L w :: mE L w :: spE L.sb L.sm :: (L.TH ++ (L.rl ++ (L.kl ++ (L.KH ++ (L.cl ++ (L.CH ++ (L.sl ++ (L.al ++ (L.AH ++ (L.acl ++ (L.AccH ++ (L.isl ++ r)))))))))))))) (by unfold WL.H; exact prm_) ?_
 refine Tr.out (Ne.Len_ok hw.n) ?_
 rintro v l' ⟨rfl, rfl⟩
 exact ⟨_, Imp.perm (by unfold WL.H; exact prm_), by rw [List.length_map], rfl⟩
def runB : Nat → WS → Option WS
 | 0, _ => none
 | f + 1, w => if w.net.length = 0 then some w else if w.net.length ≤ 32 then match deliverW w with
  | some w' => runB f w'
  | none => none else none
theorem deliver_ok {w w' : WS} (h : runB 300 w = some w') {b : Nat} {H r : List Ent} {W : World} (hB : WorldB W b w H) :
  Tr Pg 8 #[ptr b] W (H ++ r) fun v l' => v = .bool true ∧ ∃ H', WorldB W b w' H' ∧ l' = H' ++ r := by
 refine Tr.of_code (args := [_]) Tryz.func8 rfl Tryz.ntmps8 lE_ ?_
 refine AU0 ?_
 refine JC.loop (fun m f l => ∃ (i : Nat) (w : WS) (H : List Ent), i + m = 300 ∧ FrOk f [(0, ptr b), (3, iv (i : Int))] ∧ runB m w = some w' ∧ WorldB W b w H ∧ l = H ++ r) 300 ?_ ?_
 ·exact ⟨0, w, H, rfl, ⟨rfl, rfl, trivial⟩, h, hB, rfl⟩
 clear h hB
 rintro m f l ⟨i, w, H, hm, hf, h, hB, rfl⟩
 refine JC.frame _ hf fun f' => ?_
 cases m with
 | zero => cases h
 | succ m =>
  obtain ⟨L, hw, hH⟩ := id hB
  unfold runB at h
  refine AU0 ?_
  refine JLs (e_call rfl rfl (WNet_ok (wB_mem (W := W) hH)) ?_)
  rintro v l' ⟨rfl, rfl⟩
  refine AU0 ?_
  refine JLs (e_call rfl rfl (lenW_ok hw hH) ?_)
  rintro v l' ⟨rfl, rfl⟩
  by_cases h0 : w.net.length = 0
  ·rw [if_pos h0] at h
   cases h
   refine AU0 ?_
   exact JC.ret (RT.one rfl rfl (v := .bool true) rfl ⟨rfl, H, hB, rfl⟩)
  ·rw [if_neg h0] at h
   split at h
   case isFalse => cases h
   rename_i h32
   split at h
   case h_2 => cases h
   rename_i w1 h1
   refine AU0 ?_
   refine JLp (y_build (cells := (stC 3 0 0 0).toArray) (by kernel_rfl)) ?_
   refine JLs (e_call rfl rfl (Do_deliver h1 h32 hB) ?_)
   rintro v l' ⟨rfl, H1, hB1, rfl⟩
   refine AU0 ?_
   exact RN.loop (m' := m) (by omega) ⟨i + 1, w1, H1, by omega, ⟨rfl, rfl, trivial⟩, h, hB1, rfl⟩
theorem begin_ok {w0 : WS} (h : initM forestT clsP svsP = some w0) {W : World} {r : List Ent} : Tr Pg 6 #[] W r fun v l' => ∃ b H, v = ptr b ∧ WorldB W b w0 H ∧ l' = H ++ r := by
 have h3 : w0.cl.length = 3 := by
  obtain ⟨-, -, -, -, -, -, -, _, _, _, _, -, -, -, -, rfl⟩ := initM_spec h
  rfl
 refine Tr.of_code (args := []) Tryz.func6 rfl Tryz.ntmps6 lE_ ?_
 refine AU0 ?_
 refine JLs (e_call rfl rfl people_ok ?_)
 rintro v l' ⟨b1, b2, rfl, rfl⟩
 refine AU0 ?_
 refine JLs (e_call rfl rfl forest_ok ?_)
 rintro v l' ⟨u1, u2, u3, TH, rfl, hT, rfl⟩
 refine AU0 ?_
 refine JLs (e_call rfl rfl (WNew_ok h (hT.mono fun e he => by simp [he]) (Ac := some ⟨b1, 0, none⟩) (nc_ := 3) ⟨Src.whole (List.mem_append_right _ (List.mem_cons_of_mem _ (List.mem_cons_self ..))), Nat.le_refl _, fun h => by cases h⟩ (As := some ⟨b2, 0, none⟩) (ns_ := 3) ⟨Src.whole (List.mem_append_right _ (List.mem_cons_self ..)), Nat.le_refl _, fun h => by cases h⟩) ?_)
 rintro v l' ⟨b, H, rfl, hB, rfl⟩
 obtain ⟨L, hw, hH⟩ := id hB
 have hcl : ∀ {r}, ∀ e ∈ L.cl, e ∈ H ++ r := fun e he => by subst hH; simp [WL.H, he]
 refine AU0 ?_
 refine JLs (e_call rfl rfl (WNet_ok (wB_mem (W := W) hH)) ?_)
 rintro v l' ⟨rfl, rfl⟩
 refine AU0 ?_
 refine JLs (e_call rfl rfl (WClient_ok hw (j := 0) (by omega) (wB_mem (W := W) hH) hcl) ?_)
 rintro v l' ⟨⟨q0, rfl⟩, rfl⟩
 refine AU0 ?_
 refine JLs (e_call rfl rfl (WClient_ok hw (j := 1) (by omega) (wB_mem (W := W) hH) hcl) ?_)
 rintro v l' ⟨⟨q1, rfl⟩, rfl⟩
 refine AU0 ?_
 refine JLs (e_call rfl rfl (WClient_ok hw (j := 2) (by omega) (wB_mem (W := W) hH) hcl) ?_)
 rintro v l' ⟨⟨q2, rfl⟩, rfl⟩
 refine AU0 ?_
 refine JC.sub (l' := H ++ r) (List.Sublist.append_left ((List.sublist_append_right [_, _] r).trans (List.sublist_append_right TH _)) _) ?_
 exact JC.ret (RT.one rfl rfl (v := ptr b) rfl ⟨b, H, rfl, hB, rfl⟩)
theorem known_ok {w0 w1 : WS} (h : initM forestT clsP svsP = some w0) (h1 : chaseW w0 0 0 = some w1) (h2 : w1.net.length = 1) {W : World} {r : List Ent} : Tr Pg 10 #[] W r fun v l' => v = .bool true ∧ ∃ Y, l' = Y ++ r := by
 obtain ⟨hn, ha⟩ : w0.net = [] ∧ w0.acc = [] := by
  obtain ⟨-, -, -, -, -, -, -, _, _, _, _, -, -, -, -, rfl⟩ := initM_spec h
  exact ⟨rfl, rfl⟩
 refine Tr.of_code (args := []) Tryz.func10 rfl Tryz.ntmps10 lE_ ?_
 refine AU0 ?_
 refine JLs (e_call rfl rfl (begin_ok h) ?_)
 rintro v l' ⟨b, H, rfl, hB, rfl⟩
 obtain ⟨L, hw, hH⟩ := id hB
 refine AU0 ?_
 refine JLs (e_call rfl rfl (WNet_ok (wB_mem (W := W) hH)) ?_)
 rintro v l' ⟨rfl, rfl⟩
 refine AU0 ?_
 refine JLs (e_call rfl rfl (lenW_ok hw hH) ?_)
 rintro v l' ⟨rfl, rfl⟩
 have hn0 : w0.net.length = 0 := by rw [hn]; rfl
 refine AU0 ?_
 refine JLs (e_call rfl rfl (Accepts_ok hB (by rw [ha]; exact Nat.zero_le _) (by rw [ha]; intro x hx; cases hx)) ?_)
 rintro v l' ⟨le, hv, rfl⟩
 rw [ha] at hv
 obtain ⟨A, c, rfl⟩ := hv
 refine AU0 ?_
 refine JLp (y_build (cells := (stC 1 100 0 0).toArray) (by kernel_rfl)) ?_
 refine JLs (e_call rfl rfl (Tr.perm (l' := H ++ (le ++ r)) prm_ (Do_chase (c := 0) (s := 0) (n := 0) h1 hB)) ?_)
 rintro v l' ⟨rfl, H', hB', rfl⟩
 obtain ⟨L', hw', hH'⟩ := id hB'
 refine AU0 ?_
 refine JLs (e_call rfl rfl (WNet_ok (wB_mem (W := W) hH')) ?_)
 rintro v l' ⟨rfl, rfl⟩
 refine AU0 ?_
 refine JLs (e_call rfl rfl (lenW_ok hw' hH') ?_)
 rintro v l' ⟨rfl, rfl⟩
 refine AU0 ?_
 refine JC.ret (RT.one rfl rfl (v := .bool true) rfl ⟨rfl, H' ++ le, by rw [List.append_assoc]⟩)
end Go.Proofs.YtbalcgjphkdecaaGreatDoor.To
namespace Go.Proofs.YtbalcgjphkdecaaGreatDoor.To
open Go.RowKit Go.Lg
set_option maxRecDepth 100000
def startB : Bool := match initM forestT clsP svsP with
 | some w0 => match chaseW w0 0 0 with
  | some w1 => decide (w1.net.length = 1)
  | none => false
 | none => false
def accB (w : WS) (n : Nat) : Bool := decide (w.acc.length = n) && w.acc.all fun x => decide (x.tr.length ≤ 1000)
def chasedM (c s : Nat) : Option (WS × WS × WS) := match initM forestT clsP svsP with
 | some w0 => match chaseW w0 c s with
  | some w1 => match runB 300 w1 with
   | some w2 => some (w0, w1, w2)
   | none => none
  | none => none
 | none => none
theorem chasedM_spec {c s : Nat} {w0 w1 w2 : WS} (h : chasedM c s = some (w0, w1, w2)) : initM forestT clsP svsP = some w0 ∧ chaseW w0 c s = some w1 ∧ runB 300 w1 = some w2 := by
 unfold chasedM at h
 split at h
 case h_2 => cases h
 rename_i w0' h0
 split at h
 case h_2 => cases h
 rename_i w1' h1
 split at h
 case h_2 => cases h
 rename_i w2' h2
 cases h
 exact ⟨h0, h1, h2⟩
def skewB (c s b nd : Nat) : Bool := match chasedM c s with
 | some (_, _, w2) => match tickW w2 (nd : Int) (b : Int) with
  | some w3 => match askW w3 c s with
   | some (some w4) => match runB 300 w4 with
    | some w5 => accB w5 (if b ≤ 5 then 1 else 0)
    | none => false
   | _ => false
  | none => false
 | none => false
theorem skewB_spec {c s b nd : Nat} (h : skewB c s b nd = true) : ∃ w0 w1 w2 w3 w4 w5, initM forestT clsP svsP = some w0 ∧ chaseW w0 c s = some w1 ∧ runB 300 w1 = some w2 ∧ tickW w2 (nd : Int) (b : Int) = some w3 ∧ askW w3 c s = some (some w4) ∧ runB 300 w4 = some w5 ∧
  w5.acc.length = (if b ≤ 5 then 1 else 0) ∧ ∀ x ∈ w5.acc, x.tr.length ≤ 1000 := by
 unfold skewB at h
 split at h
 case h_2 => cases h
 rename_i w0 w1 w2 h0
 split at h
 case h_2 => cases h
 rename_i w3 h3
 split at h
 case h_2 => cases h
 rename_i w4 h4
 split at h
 case h_2 => cases h
 rename_i w5 h5
 unfold accB at h
 simp only [Bool.and_eq_true, decide_eq_true_eq, List.all_eq_true] at h
 obtain ⟨a0, a1, a2⟩ := chasedM_spec h0
 exact ⟨w0, w1, w2, w3, w4, w5, a0, a1, a2, h3, h4, h5, h.1, h.2⟩
theorem start_yes : startB = true := by decide +kernel
set_option maxRecDepth 100000 in
theorem skew_yes : ((List.range 3).all fun c => (List.range 3).all fun s => (List.range 13).all fun b => skewB c s b (100 + c) && skewB c s b (200 + s)) = true := by decide +kernel
theorem start_spec {w0 : WS} (h : initM forestT clsP svsP = some w0) : ∃ w1, chaseW w0 0 0 = some w1 ∧ w1.net.length = 1 := by
 have hs := start_yes
 unfold startB at hs
 rw [h] at hs
 dsimp only at hs
 split at hs
 case h_2 => cases hs
 rename_i w1 h1
 exact ⟨w1, h1, by simpa using hs⟩
theorem AcV.len {W : World} {le : List Ent} {v : Value} {acc : List AccS} (hv : AcV W le v acc) : ∃ A n cc, v = .slice A n cc ∧ n = acc.length := by
 unfold AcV at hv
 split at hv
 ·obtain ⟨A, cc, rfl⟩ := hv; exact ⟨A, 0, cc, rfl, rfl⟩
 ·obtain ⟨g, cap, A, cc, rfl, -⟩ := hv; exact ⟨_, 1, cap, rfl, rfl⟩
 ·exact hv.elim
attribute [local irreducible] JC JL JD RN RT Eff Yld YldIf Tr partsL okR splitL wordB joinD fit betweenS laidS viaS De.wrapB De.num De.clampI K Se.sealB Pa.byts Au.byts RP.byts Mg.byts Se.inc tillM Sp.kst runB initM chaseW askW tickW
theorem skewed_law (c s by_ : Int) (sv_ : Bool) (W : World) : Tr Pg 3 #[iv c, iv s, iv by_, .bool sv_] W [] fun v _ => v = .bool true := by
 refine Tr.of_code (args := [_, _, _, _]) Tryz.func3 rfl Tryz.ntmps3 lE_ ?_
 by_cases g1 : c < 0
 ·refine AU0 ?_
  exact JC.ret (RT.one rfl rfl (v := .bool true) rfl rfl)
 by_cases g2 : 2 < c
 ·refine AU0 ?_
  exact JC.ret (RT.one rfl rfl (v := .bool true) rfl rfl)
 by_cases g3 : s < 0
 ·refine AU0 ?_
  exact JC.ret (RT.one rfl rfl (v := .bool true) rfl rfl)
 by_cases g4 : 2 < s
 ·refine AU0 ?_
  exact JC.ret (RT.one rfl rfl (v := .bool true) rfl rfl)
 by_cases g5 : by_ < 0
 ·refine AU0 ?_
  exact JC.ret (RT.one rfl rfl (v := .bool true) rfl rfl)
 by_cases g6 : 12 < by_
 ·refine AU0 ?_
  exact JC.ret (RT.one rfl rfl (v := .bool true) rfl rfl)
 obtain ⟨c, rfl⟩ : ∃ n : Nat, c = (n : Int) := ⟨c.toNat, by omega⟩
 obtain ⟨s, rfl⟩ : ∃ n : Nat, s = (n : Int) := ⟨s.toNat, by omega⟩
 obtain ⟨k, rfl⟩ : ∃ n : Nat, by_ = (n : Int) := ⟨by_.toNat, by omega⟩
 obtain ⟨w0, w1, w2, w3, w4, w5, a0, a1, a2, a3, a4, a5, a6, a7⟩ := skewB_spec (c := c) (s := s) (b := k) (nd := if sv_ then 200 + s else 100 + c) (by
  have h := skew_yes
  simp only [List.all_eq_true, List.mem_range, Bool.and_eq_true] at h
  have := h c (by omega) s (by omega) k (by omega)
  cases sv_
  ·exact this.1
  ·exact this.2)
 obtain ⟨x1, x2, x3⟩ := start_spec a0
 refine AU0 ?_
 refine JLs (e_call rfl rfl (begin_ok a0) ?_)
 rintro v l' ⟨b, H, rfl, hB, rfl⟩
 refine AU0 ?_
 refine JLp (y_build (cells := (stC 1 (100 + (c : Int)) 0 (s : Int)).toArray) (by kernel_rfl)) ?_
 refine JLs (e_call rfl rfl (Do_chase (n := 0) a1 hB) ?_)
 rintro v l' ⟨rfl, H1, hB1, rfl⟩
 refine AU0 ?_
 refine JLs (e_call rfl rfl (deliver_ok a2 hB1) ?_)
 rintro v l' ⟨rfl, H2, hB2, rfl⟩
 cases sv_
 ·refine AU0 ?_
  refine JLp (y_build (cells := (stC 6 (100 + (c : Int)) (k : Int) 0).toArray) (by kernel_rfl)) ?_
  refine JLs (e_call rfl rfl (Do_tick (nd := 100 + (c : Int)) (n := (k : Int)) a3 hB2) ?_)
  rintro v l' ⟨rfl, H3, hB3, rfl⟩
  refine AU0 ?_
  refine JLp (y_build (cells := (stC 2 (100 + (c : Int)) 0 (s : Int)).toArray) (by kernel_rfl)) ?_
  refine JLs (e_call rfl rfl (Do_ask (n := 0) a4 hB3) ?_)
  rintro v l' ⟨rfl, H4, hB4, rfl⟩
  refine AU0 ?_
  refine JLs (e_call rfl rfl (deliver_ok a5 hB4) ?_)
  rintro v l' ⟨rfl, H5, hB5, rfl⟩
  refine AU0 ?_
  refine JLs (e_call rfl rfl (Accepts_ok hB5 (by rw [a6]; split <;> omega) a7) ?_)
  rintro v l' ⟨le, hv, rfl⟩
  obtain ⟨A, n, cc, rfl, hn⟩ := hv.len
  rw [a6] at hn
  by_cases hk : k ≤ 5
  ·rw [if_pos hk] at hn
   repeat (first | refine JLp (y_eqlB rfl rfl) ?_ | refine AS0 ?_)
   refine JLs (e_call rfl rfl (known_ok a0 x2 x3) ?_)
   rintro v l' ⟨rfl, Y, rfl⟩
   refine AU0 ?_
   exact JC.ret (RT.one rfl rfl (v := .bool true) rfl rfl)
  ·rw [if_neg hk] at hn
   repeat (first | refine JLp (y_eqlB rfl rfl) ?_ | refine AS0 ?_)
   refine JLs (e_call rfl rfl (known_ok a0 x2 x3) ?_)
   rintro v l' ⟨rfl, Y, rfl⟩
   refine AU0 ?_
   exact JC.ret (RT.one rfl rfl (v := .bool true) rfl rfl)
 ·refine AU0 ?_
  refine JLp (y_build (cells := (stC 6 (200 + (s : Int)) (k : Int) 0).toArray) (by kernel_rfl)) ?_
  refine JLs (e_call rfl rfl (Do_tick (nd := 200 + (s : Int)) (n := (k : Int)) a3 hB2) ?_)
  rintro v l' ⟨rfl, H3, hB3, rfl⟩
  refine AU0 ?_
  refine JLp (y_build (cells := (stC 2 (100 + (c : Int)) 0 (s : Int)).toArray) (by kernel_rfl)) ?_
  refine JLs (e_call rfl rfl (Do_ask (n := 0) a4 hB3) ?_)
  rintro v l' ⟨rfl, H4, hB4, rfl⟩
  refine AU0 ?_
  refine JLs (e_call rfl rfl (deliver_ok a5 hB4) ?_)
  rintro v l' ⟨rfl, H5, hB5, rfl⟩
  refine AU0 ?_
  refine JLs (e_call rfl rfl (Accepts_ok hB5 (by rw [a6]; split <;> omega) a7) ?_)
  rintro v l' ⟨le, hv, rfl⟩
  obtain ⟨A, n, cc, rfl, hn⟩ := hv.len
  rw [a6] at hn
  by_cases hk : k ≤ 5
  ·rw [if_pos hk] at hn
   repeat (first | refine JLp (y_eqlB rfl rfl) ?_ | refine AS0 ?_)
   refine JLs (e_call rfl rfl (known_ok a0 x2 x3) ?_)
   rintro v l' ⟨rfl, Y, rfl⟩
   refine AU0 ?_
   exact JC.ret (RT.one rfl rfl (v := .bool true) rfl rfl)
  ·rw [if_neg hk] at hn
   repeat (first | refine JLp (y_eqlB rfl rfl) ?_ | refine AS0 ?_)
   refine JLs (e_call rfl rfl (known_ok a0 x2 x3) ?_)
   rintro v l' ⟨rfl, Y, rfl⟩
   refine AU0 ?_
   exact JC.ret (RT.one rfl rfl (v := .bool true) rfl rfl)
end Go.Proofs.YtbalcgjphkdecaaGreatDoor.To
