/- The law by itself: what the machine computes, and the walk through the law's own function. -/

import Derived.Test.YtbalcgjphkdecaaGreatDoorK6
set_option linter.unusedVariables false
set_option linter.unusedSimpArgs false
set_option maxHeartbeats 8000000
namespace Go.Proofs.YtbalcgjphkdecaaGreatDoor.To
open Go.RowKit Go.Lg
set_option maxRecDepth 100000
attribute [local irreducible] JC JL JD RN RT Eff Yld YldIf Tr partsL okR splitL wordB joinD fit betweenS laidS viaS De.wrapB De.num De.clampI K Se.sealB Pa.byts Au.byts RP.byts Mg.byts Se.inc tillM Sp.kst
theorem and_one (a : Int) : ∃ r : Nat, r ≤ 1 ∧ bits .and .i64 a 1 = (r : Int) := by
 have h1 : (BitVec.ofInt 64 a &&& BitVec.ofInt 64 1).toNat ≤ 1 := by
  rw [BitVec.toNat_and]
  exact Nat.le_trans Nat.and_le_right (by decide)
 refine ⟨(BitVec.ofInt 64 a &&& BitVec.ofInt 64 1).toNat, h1, ?_⟩
 show IntKind.i64.wrap ((BitVec.ofInt 64 a &&& BitVec.ofInt 64 1).toNat : Int) = _
 exact wrap_add (by omega) (by omega)
theorem Place_ok {A : Option Addr} {n c : Nat} {xs : List S} (x : S) {W : World} {r : List Ent} (hn : xs.length = n) (hm : n ≤ 1000000) (hs : Src W r A (xs.map sv)) :
  Tr Pg 11 #[.slice A n c, .string (ba x)] W r fun v l' => v = .int .i64 (idxF (fun y => decide (y = x)) xs 0) ∧ l' = r := by
 refine Tr.of_code (args := [_, _]) Tryz.func11 rfl Tryz.ntmps11 lE_ ?_
 refine AU0 ?_
 refine JC.loop (fun m f l => ∃ i, i + m = n ∧ FrOk f [(0, .slice A n c), (1, .string (ba x)), (5, .int .i64 (i : Int))] ∧ (∀ j y, j < i → xs[j]? = some y → decide (y = x) = false) ∧ l = r) n ?_ ?_
 ·exact ⟨0, by omega, ⟨rfl, rfl, rfl, trivial⟩, fun j y h => absurd h (Nat.not_lt_zero _), rfl⟩
 rintro m f l ⟨i, hmi, hf, hno, rfl⟩
 refine JC.frame _ hf fun f' => ?_
 by_cases hi : i < n
 ·have hi' : i < xs.length := by omega
  obtain ⟨b, o, rfl, hc⟩ := hs.at_ (by rw [List.length_map]; omega)
  have hy := List.getElem?_eq_getElem hi'
  refine AU0 ?_
  refine JLs (e_loadS (u := sv (xs[i]'hi')) rfl (fun w hw => by rw [Nat.mul_one]; exact hc l (fun _ h => h) w hw i _ (by rw [List.getElem?_map, hy]; rfl)) ?_)
  have he := eqSS (xs[i]'hi') x
  by_cases hx : xs[i]'hi' = x
  ·have hd : decide (xs[i]'hi' = x) = true := decide_eq_true hx
   rw [hd] at he
   repeat (first | refine JLp (y_eqlS rfl rfl he) ?_ | refine AS0 ?_)
   refine JC.ret (RT.one rfl rfl (by conv => lhs; whnf) ⟨?_, rfl⟩)
   rw [idxF_at _ xs 0 i _ hy hd hno, Nat.zero_add]
  ·have hd : decide (xs[i]'hi' = x) = false := decide_eq_false hx
   rw [hd] at he
   repeat (first | refine JLp (y_eqlS rfl rfl he) ?_ | refine AS0 ?_)
   refine RN.loop (m' := m - 1) (by omega) ⟨i + 1, by omega, ⟨rfl, rfl, rfl, trivial⟩, fun j y hj hjy => ?_, rfl⟩
   by_cases hji : j = i
   ·subst hji
    rw [hy] at hjy
    cases hjy
    exact hd
   ·exact hno j y (by omega) hjy
 ·obtain rfl : n = i := by omega
  refine AU0 ?_
  refine JC.ret (RT.one rfl rfl (by conv => lhs; whnf) ⟨?_, rfl⟩)
  rw [idxF_none _ xs 0 fun j y hy => hno j y (by have := (List.getElem?_eq_some_iff.1 hy).1; omega) hy]
def pA : S := [65]
def pB : S := [66]
def pC : S := [67]
def pD : S := [68]
def wy (ls : List S) : List S := pA :: (ls ++ [pD])
def lnk (ls : List S) : List P2 := (wy ls).zip (wy ls).tail
def pths (ls : List S) : List Pt := ⟨pA, pD, ls⟩ :: match ls with
 | [x, y] => [⟨x, pD, [y]⟩]
 | _ => []
def topP (ls : List S) : Topo := ⟨[pA, pB, pC, pD], lnk ls, pths ls⟩
def clP : List P2 := [(pA, [97, 110, 110])]
def svP : List P2 := [(pD, [109, 97, 105, 108])]
def pathB (ls : List S) : Bool := match initM (topP ls) clP svP with
 | some w0 => match chaseW w0 0 0 with
  | some w1 => match runB 300 w1 with
   | some w2 => match askW w2 0 0 with
    | some (some w3) => match runB 300 w3 with
     | some w4 => match w4.acc with
      | [x] => decide (x.tr = ls)
      | _ => false
     | none => false
    | _ => false
   | none => false
  | none => false
 | none => false
theorem pathB_spec {ls : List S} (h : pathB ls = true) : ∃ w0 w1 w2 w3 w4 x, initM (topP ls) clP svP = some w0 ∧ chaseW w0 0 0 = some w1 ∧ runB 300 w1 = some w2 ∧ askW w2 0 0 = some (some w3) ∧ runB 300 w3 = some w4 ∧ w4.acc = [x] ∧ x.tr = ls := by
 unfold pathB at h
 split at h
 case h_2 => cases h
 rename_i w0 h0
 split at h
 case h_2 => cases h
 rename_i w1 h1
 split at h
 case h_2 => cases h
 rename_i w2 h2
 split at h
 case h_2 => cases h
 rename_i w3 h3
 split at h
 case h_2 => cases h
 rename_i w4 h4
 split at h
 case h_2 => cases h
 rename_i x h5
 exact ⟨w0, w1, w2, w3, w4, x, h0, h1, h2, h3, h4, h5, of_decide_eq_true h⟩
def okL (ls : List S) : Prop := ls.Nodup ∧ ∀ x ∈ ls, x = pB ∨ x = pC
theorem path_yes {ls : List S} (h : okL ls) (h2 : ls.length ≤ 2) : pathB ls = true := by
 match ls, h, h2 with
 | [], _, _ => decide +kernel
 | [x], h, _ =>
  rcases h.2 x (List.mem_cons_self ..) with rfl | rfl
  ·decide +kernel
  ·decide +kernel
 | [x, y], h, _ =>
  have hn : x ≠ y := fun e => by subst e; simpa using h.1
  rcases h.2 x (List.mem_cons_self ..) with rfl | rfl <;> rcases h.2 y (List.mem_cons_of_mem _ (List.mem_cons_self ..)) with rfl | rfl
  ·exact absurd rfl hn
  ·decide +kernel
  ·decide +kernel
  ·exact absurd rfl hn
theorem wy_len (ls : List S) : (wy ls).length = ls.length + 2 := by simp [wy]
theorem lnk_len (ls : List S) : (lnk ls).length = ls.length + 1 := by simp [lnk, wy_len]
theorem lnk_at {ls : List S} {j : Nat} (hj : j < ls.length + 1) : ∃ x y, (wy ls)[j]? = some x ∧ (wy ls)[j + 1]? = some y ∧ (lnk ls)[j]? = some (x, y) := by
 have h1 := List.getElem?_eq_getElem (show j < (wy ls).length by rw [wy_len]; omega)
 have h2 := List.getElem?_eq_getElem (show j + 1 < (wy ls).length by rw [wy_len]; omega)
 refine ⟨_, _, h1, h2, ?_⟩
 unfold lnk
 rw [List.getElem?_zip_eq_some]
 exact ⟨h1, by rw [List.getElem?_tail]; exact h2⟩
end Go.Proofs.YtbalcgjphkdecaaGreatDoor.To
namespace Go.Proofs.YtbalcgjphkdecaaGreatDoor.To
open Go.RowKit Go.Lg
set_option maxRecDepth 100000
attribute [local irreducible] JC JL JD RN RT Eff Yld YldIf Tr partsL okR splitL wordB joinD fit betweenS laidS viaS De.wrapB De.num De.clampI K Se.sealB Pa.byts Au.byts RP.byts Mg.byts Se.inc tillM Sp.kst runB initM chaseW askW tickW
theorem JC.cutr {P : Program} {n : Nat} {W : World} {K : Kont} {c : Code} {id : Nat} {f : Fr} {l : List Ent} (I : Fr → List Ent → Prop) (ht : ∀ f l, I f l → RN P n W K f l) (h : ∀ K', K'.bottom = K.bottom → (∀ f l, I f l → RN P n W K' f l) → JC P n W c (.blk id K') f l) : JC P n W c (.blk id K) f l := h K rfl ht
theorem start_all : ∃ w0 w1, initM forestT clsP svsP = some w0 ∧ chaseW w0 0 0 = some w1 ∧ w1.net.length = 1 := by
 cases h : initM forestT clsP svsP with
 | none => have hs := start_yes; unfold startB at hs; rw [h] at hs; cases hs
 | some w0 =>
  obtain ⟨w1, h1, h2⟩ := start_spec h
  exact ⟨w0, w1, rfl, h1, h2⟩
theorem idxF_in {x : S} : ∀ {l : List S} (k : Nat), x ∈ l → ∃ j : Nat, idxF (fun y => decide (y = x)) l k = (j : Int)
 | y :: ys, k, h => by
  unfold idxF
  by_cases hy : y = x
  ·exact ⟨k, by rw [if_pos (decide_eq_true hy)]⟩
  ·rw [if_neg (by simpa using hy)]
   exact idxF_in (k + 1) ((List.mem_cons.1 h).resolve_left fun e => hy e.symm)
theorem idxF_out {x : S} {l : List S} (h : x ∉ l) : idxF (fun y => decide (y = x)) l 0 = -1 :=
 idxF_none _ l 0 fun j y hy => decide_eq_false fun e => h (e ▸ List.mem_of_getElem? hy)
theorem okL_snoc {ls : List S} {z : S} (h : okL ls) (hz : z ∉ ls) (h2 : z = pB ∨ z = pC) : okL (ls ++ [z]) :=
 ⟨by rw [List.nodup_append]; exact ⟨h.1, by simp, fun a ha b hb e => hz (by rw [← List.mem_singleton.1 hb, ← e]; exact ha)⟩, fun x hx => (List.mem_append.1 hx).elim (h.2 x) fun hx => by rw [List.mem_singleton.1 hx]; exact h2⟩
theorem paths_law {A : Option Addr} {n c : Nat} {xs : List Int} (hn : xs.length = n) {W : World} (hs : Src W [] A (xs.map iv)) : Tr Pg 5 #[.slice A n c] W [] fun v _ => v = .bool true := by
 refine Tr.of_code (args := [_]) Tryz.func5 rfl Tryz.ntmps5 lE_ ?_
 refine AU0 ?_
 refine JLs (e_buildSlice (cells := [pA, pB, pC, pD].map sv) ([pA, pB, pC, pD].map sv) rfl lE_ rfl (fun u hu => by obtain ⟨y, _, rfl⟩ := List.mem_map.1 hu; rfl) rfl fun bA => ?_)
 refine AU0 ?_
 refine JC.cutr (fun f l => ∃ (ls : List S) (B : Option Addr) (d : Nat) (le : List Ent), FrOk f [(3, .slice (some ⟨bA, 0, none⟩) 4 4), (4, .slice B ls.length d)] ∧ ls.length ≤ 2 ∧ okL ls ∧ Lg.Own 9 1 (.slice B ls.length d) ls.length (ls.map sv) le ∧ l = (bA, isR 9 (4 * 1) ([pA, pB, pC, pD].map sv)) :: (le ++ [])) ?_ fun K1 hb1 hT1 => ?_
 rotate_left
 refine JC.loop (fun m f l => ∃ (i : Nat) (ls : List S) (B : Option Addr) (d : Nat) (le : List Ent), i + m = 2 ∧ FrOk f [(0, .slice A n c), (3, .slice (some ⟨bA, 0, none⟩) 4 4), (4, .slice B i d), (5, iv (i : Int))] ∧ ls.length = i ∧ okL ls ∧ Lg.Own 9 1 (.slice B i d) i (ls.map sv) le ∧ l = (bA, isR 9 (4 * 1) ([pA, pB, pC, pD].map sv)) :: (le ++ [])) 2 ?_ ?_
 ·exact ⟨0, [], none, 0, [], rfl, ⟨rfl, rfl, rfl, rfl, trivial⟩, rfl, ⟨List.nodup_nil, fun x hx => by cases hx⟩, Lg.Own.nil .., rfl⟩
 rintro m f l ⟨i, ls, B, d, le, hm, hf, hli, hok, ho, rfl⟩
 refine JC.frame _ hf fun f' => ?_
 by_cases hin : i < n ∧ i < 2
 ·obtain ⟨hin, hi2⟩ := hin
  obtain ⟨b, o, rfl, hc⟩ := hs.at_ (by rw [List.length_map]; omega)
  have hy := List.getElem?_eq_getElem (show i < xs.length by omega)
  obtain ⟨q, hq, hqe⟩ := and_one (xs[i]'(by omega))
  obtain ⟨z, hz, hzi⟩ : ∃ z, (z = pB ∨ z = pC) ∧ [pA, pB, pC, pD][1 + q]? = some z := by
   rcases (show q = 0 ∨ q = 1 by omega) with rfl | rfl
   ·exact ⟨pB, .inl rfl, rfl⟩
   ·exact ⟨pC, .inr rfl, rfl⟩
  refine AU0 ?_
  refine JLs (e_loadS (u := iv (xs[i]'(by omega))) rfl (fun w hw => by rw [Nat.mul_one]; exact hc _ (fun e h => by cases h) w hw i _ (by rw [List.getElem?_map, hy]; rfl)) ?_)
  refine JLp (y_andC rfl rfl hqe) ?_
  repeat (first | refine JLp (y_index (j := 1 + q) rfl rfl (by omega)) ?_ | refine AS0 ?_)
  refine JL.read 0 rfl rfl (r_loadR1 (v := sv z) rfl (by rw [List.getElem?_map, Nat.zero_add, Nat.mul_one, hzi]; rfl)) ?_
  obtain ⟨B', d', he, hsl⟩ := SlV.own (W := W) ho
  injection he with e1 _ e3
  subst e1 e3
  refine AU0 ?_
  refine JLs (e_call rfl rfl (Place_ok z hli (by omega) (hsl.1.mono fun e he => by simp [he])) ?_)
  rintro v l' ⟨rfl, rfl⟩
  by_cases hzl : z ∈ ls
  ·obtain ⟨j, hj⟩ := idxF_in 0 hzl
   rw [hj]
   refine AU0 ?_
   exact JC.ret (RT.one rfl hb1 (v := .bool true) rfl rfl)
  ·rw [idxF_out hzl]
   refine AU0 ?_
   refine JLs (e_buildSlice (cells := [sv z]) [sv z] rfl lE_ rfl (fun u hu => by cases List.mem_singleton.1 hu; rfl) rfl fun bz => ?_)
   refine JLs (e_appendP [_, _] le rfl rfl ho rfl (news := [sv z]) rfl (Src.whole (List.mem_cons_self ..)) (fun u hu => by cases List.mem_singleton.1 hu; rfl) (by omega) (by unfold maxLen; omega) fun v' le' ho' _ => ?_)
   obtain ⟨g, d', rfl, -, -, -⟩ := De.own_some (id ho') (Nat.succ_pos _)
   refine AU0 ?_
   refine RN.sub (List.sublist_append_right [_] _) ?_
   exact RN.loop (m' := m - 1) (by omega) ⟨i + 1, ls ++ [z], some ⟨g, 0, none⟩, d', le', by omega, ⟨rfl, rfl, rfl, rfl, trivial⟩, by rw [List.length_append, hli]; rfl, okL_snoc hok hzl hz, by rw [List.map_append]; exact ho', rfl⟩
 ·have hi2 : i ≤ 2 := by omega
  subst hli
  by_cases h1 : ls.length < n
  ·have h2 : ¬ ls.length < 2 := fun h => hin ⟨h1, h⟩
   refine AU0 ?_
   refine hT1 _ _ ?_
   exact ⟨ls, B, d, le, ⟨rfl, rfl, trivial⟩, hi2, hok, ho, rfl⟩
  ·refine AU0 ?_
   refine hT1 _ _ ?_
   exact ⟨ls, B, d, le, ⟨rfl, rfl, trivial⟩, hi2, hok, ho, rfl⟩
 rintro f l ⟨ls, B, d, le, hf, hi2, hok, ho, rfl⟩
 refine RN.frame _ hf fun f' => ?_
 obtain ⟨w0, w1, w2, w3, w4, x, a0, a1, a2, a3, a4, a5, a6⟩ := pathB_spec (path_yes hok hi2)
 clear hs hn
 obtain ⟨B', d', he, hsl⟩ := SlV.own (W := W) ho
 injection he with e1 _ e3
 subst e1 e3
 refine AU0 ?_
 refine JLp (y_build (cells := #[sv pA, sv pD, .slice B ls.length d]) (by kernel_rfl)) ?_
 refine JLs (e_buildSlice (cells := [sv pA, sv pD, .slice B ls.length d]) [.agg #[sv pA, sv pD, .slice B ls.length d]] rfl lE_ rfl (fun u hu => by cases List.mem_singleton.1 hu; rfl) rfl fun bp => ?_)
 refine JLp (y_build (cells := #[.slice (some ⟨bA, 0, none⟩) 4 4, .slice none 0 0, .slice (some ⟨bp, 0, none⟩) 1 1]) (by kernel_rfl)) ?_
 refine JLs (e_alloc fun b7 => ?_)
 refine JLs (e_store 0 rfl rfl rfl (vs := [.slice (some ⟨bA, 0, none⟩) 4 4, .slice none 0 0, .slice (some ⟨bp, 0, none⟩) 1 1]) rfl rfl rfl lE_ ?_)
 refine AU0 ?_
 refine JLs (e_buildSlice (cells := [sv pA]) [sv pA] rfl lE_ rfl (fun u hu => by cases List.mem_singleton.1 hu; rfl) rfl fun bq => ?_)
 refine AU0 ?_
 refine JLs (e_appendP [] [_] rfl rfl (n := 1) (xs := [sv pA]) ⟨rfl, .inr ⟨bq, 1, rfl, Nat.le_refl _, by unfold maxLen; omega, rfl⟩⟩ rfl (news := ls.map sv) (by rw [List.length_map, Nat.mul_one]) (hsl.1.mono fun e he => by simp [he]) (sv_one ls) (by omega) (by unfold maxLen; omega) fun v' l2 ho2 _ => ?_)
 refine JLs (e_buildSlice (cells := [sv pD]) [sv pD] rfl lE_ rfl (fun u hu => by cases List.mem_singleton.1 hu; rfl) rfl fun br => ?_)
 refine JLs (e_appendP [_] l2 rfl rfl ho2 rfl (news := [sv pD]) rfl (Src.whole (List.mem_cons_self ..)) (fun u hu => by cases List.mem_singleton.1 hu; rfl) (by omega) (by unfold maxLen; omega) fun v' l3 ho3 _ => ?_)
 obtain ⟨g3, d3, rfl, -, -, rfl⟩ := De.own_some (id ho3) (Nat.succ_pos _)
 have hwy : [sv pA] ++ ls.map sv ++ [sv pD] = (wy ls).map sv := by simp [wy]
 rw [hwy]
 refine JL.cast (l' := (br, _) :: (g3, isR 9 (d3 * 1) ((wy ls).map sv)) :: (b7, isC 43 [.slice (some ⟨bA, 0, none⟩) 4 4, .slice none 0 0, .slice (some ⟨bp, 0, none⟩) 1 1]) :: (bp, isR 39 (1 * 3) [sv pA, sv pD, .slice B ls.length d]) :: (bA, isR 9 (4 * 1) ([pA, pB, pC, pD].map sv)) :: (le ++ [])) rfl ?_
 refine JL.sub (List.sublist_append_right [_] _) ?_
 refine JL.perm (List.Perm.swap _ _ _) ?_
 refine AU0 ?_
 refine JC.cutb (fun f l => ∃ X cx lk, FrOk f [(4, .slice B ls.length d), (7, ptr b7)] ∧ Lg.Own 44 2 (.slice X (ls.length + 1) cx) (ls.length + 1) ((lnk ls).flatMap enc2) lk ∧ l = (b7, isC 43 [.slice (some ⟨bA, 0, none⟩) 4 4, .slice X (ls.length + 1) cx, .slice (some ⟨bp, 0, none⟩) 1 1]) :: (g3, isR 9 (d3 * 1) ((wy ls).map sv)) :: (lk ++ ((bp, isR 39 (1 * 3) [sv pA, sv pD, .slice B ls.length d]) :: (bA, isR 9 (4 * 1) ([pA, pB, pC, pD].map sv)) :: (le ++ [])))) ?_ fun K2 hT2 => ?_
 rotate_left
 refine JC.loop (fun m f l => ∃ (j : Nat) (X : Option Addr) (cx : Nat) (lk : List Ent), j + m = ls.length + 1 ∧ FrOk f [(4, .slice B ls.length d), (7, ptr b7), (8, .slice (some ⟨g3, 0, none⟩) (1 + ls.length + 1) d3), (9, iv ((j + 1 : Nat) : Int))] ∧ Lg.Own 44 2 (.slice X j cx) j (((lnk ls).take j).flatMap enc2) lk ∧ l = (b7, isC 43 [.slice (some ⟨bA, 0, none⟩) 4 4, .slice X j cx, .slice (some ⟨bp, 0, none⟩) 1 1]) :: (g3, isR 9 (d3 * 1) ((wy ls).map sv)) :: (lk ++ ((bp, isR 39 (1 * 3) [sv pA, sv pD, .slice B ls.length d]) :: (bA, isR 9 (4 * 1) ([pA, pB, pC, pD].map sv)) :: (le ++ [])))) (ls.length + 1) ?_ ?_
 ·exact ⟨0, none, 0, [], by omega, ⟨rfl, rfl, rfl, rfl, trivial⟩, Lg.Own.nil .., rfl⟩
 rintro m f l ⟨j, X, cx, lk, hm, hf, hox, rfl⟩
 refine JC.frame _ hf fun f' => ?_
 by_cases hj : j < ls.length + 1
 ·obtain ⟨y1, y2, hy1, hy2, hly⟩ := lnk_at hj
  refine AU0 ?_
  refine JC.drawn 16 rfl mixed ?_
  refine JDp 0 rfl (y_fieldAddr rfl) ?_
  refine JDr 1 0 rfl rfl (r_load1 rfl rfl) ?_
  refine JDp 2 rfl y_mv ?_
  refine JDp 3 rfl y_mv ?_
  refine JDp 4 rfl (y_sub (c := (j : Int)) rfl rfl (by rw [show ((j + 1 : Nat) : Int) - 1 = (j : Int) by omega]; exact wrap_add (by omega) (by omega))) ?_
  refine JDp 5 rfl (y_index (j := j) rfl rfl (by omega)) ?_
  refine JDr 6 1 rfl rfl (r_loadR1 (v := sv y1) rfl (by rw [List.getElem?_map, Nat.zero_add, Nat.mul_one, hy1]; rfl)) ?_
  refine JDp 7 rfl y_mv ?_
  refine JDp 8 rfl y_mv ?_
  refine JDp 9 rfl (y_index (j := j + 1) rfl rfl (by omega)) ?_
  refine JDr 10 1 rfl rfl (r_loadR1 (v := sv y2) rfl (by rw [List.getElem?_map, Nat.zero_add, Nat.mul_one, hy2]; rfl)) ?_
  refine JDp 11 rfl (y_build (cells := #[sv y1, sv y2]) (by kernel_rfl)) ?_
  refine JDe 12 rfl (e_buildSlice (cells := enc2 (y1, y2)) [.agg (enc2 (y1, y2)).toArray] rfl lE_ rfl (fun u hu => by cases List.mem_singleton.1 hu; rfl) rfl fun bs => ⟨tok_, ?_⟩)
  refine JDe 13 rfl (e_appendP [_, _, _] lk rfl rfl hox rfl (news := enc2 (y1, y2)) rfl (Src.whole (List.mem_cons_self ..)) enc2_one1 (by omega) (by unfold maxLen; omega) fun v' lk' hox' _ => ⟨tok_, ?_⟩)
  obtain ⟨g, cx', rfl, -, -, -⟩ := De.own_some (id hox') (Nat.succ_pos _)
  refine JDp 14 rfl (y_fieldAddr rfl) ?_
  refine JDe 15 rfl (e_store 1 rfl rfl rfl (vs := [.slice (some ⟨g, 0, none⟩) (j + 1) cx']) rfl rfl rfl lE_ ⟨tok_, ?_⟩)
  refine JDd ?_
  refine RN.cast (l' := _ :: (b7, isC 43 [.slice (some ⟨bA, 0, none⟩) 4 4, .slice (some ⟨g, 0, none⟩) (j + 1) cx', .slice (some ⟨bp, 0, none⟩) 1 1]) :: (g3, isR 9 (d3 * 1) ((wy ls).map sv)) :: (lk' ++ ((bp, isR 39 (1 * 3) [sv pA, sv pD, .slice B ls.length d]) :: (bA, isR 9 (4 * 1) ([pA, pB, pC, pD].map sv)) :: (le ++ [])))) rfl ?_
  refine RN.sub (List.sublist_append_right [_] _) ?_
  refine AU0 ?_
  refine RN.loop (m' := m - 1) (by omega) ⟨j + 1, some ⟨g, 0, none⟩, cx', lk', by omega, ⟨rfl, rfl, rfl, rfl, trivial⟩, ?_, rfl⟩
  rw [take_at hly, List.flatMap_append, List.flatMap_singleton]
  exact hox'
 ·obtain rfl : j = ls.length + 1 := by omega
  rw [List.take_of_length_le (by rw [lnk_len]; exact Nat.le_refl _)] at hox
  refine AU0 ?_
  exact hT2 _ _ ⟨X, cx, lk, ⟨rfl, rfl, trivial⟩, hox, rfl⟩
 rintro f l ⟨X, cx, lk, hf, hox, rfl⟩
 refine RN.frame _ hf fun f' => ?_
 refine RN.seq ?_
 refine JC.seq ?_
 refine JC.cut (fun f l' => ∃ R3 c3 n3 H, FrOk f [(4, .slice B ls.length d), (7, ptr b7)] ∧ TopoV W H [.slice (some ⟨bA, 0, none⟩) 4 4, .slice X (ls.length + 1) cx, .slice R3 n3 c3] (topP ls) ∧ SlV W H B ls.length d (ls.map sv) ∧ l' = (b7, isC 43 [.slice (some ⟨bA, 0, none⟩) 4 4, .slice X (ls.length + 1) cx, .slice R3 n3 c3]) :: H) ?_ fun K' hT4 => ?_
 rotate_left
 ·obtain ⟨X', cx', hex, hxs⟩ := SlV.own (W := W) hox
  injection hex with e1 _ e3
  subst e1 e3
  by_cases h2 : ls.length = 2
  ·obtain ⟨y1, y2, hls⟩ : ∃ y1 y2, ls = [y1, y2] := by
    match ls, h2 with
    | [a, b], _ => exact ⟨a, b, rfl⟩
   obtain ⟨gl, dl, hel, hd1, hd2, rfl⟩ := De.own_some (id ho) (by omega)
   injection hel with e1 _ e3
   subst e1 e3
   refine JC.perm (l' := (b7, isC 43 [.slice (some ⟨bA, 0, none⟩) 4 4, .slice X (ls.length + 1) cx, .slice (some ⟨bp, 0, none⟩) 1 1]) :: (gl, isR 9 (d * 1) (ls.map sv)) :: (bp, isR 39 (1 * 3) [sv pA, sv pD, .slice (some ⟨gl, 0, none⟩) ls.length d]) :: ((g3, isR 9 (d3 * 1) ((wy ls).map sv)) :: (lk ++ [(bA, isR 9 (4 * 1) ([pA, pB, pC, pD].map sv))]))) prm_ ?_
   refine AU0 ?_
   refine JC.drawn 12 rfl mixed ?_
   refine JDp 0 rfl (y_fieldAddr rfl) ?_
   refine JDr 1 0 rfl rfl (r_load1 rfl rfl) ?_
   refine JDp 2 rfl y_mv ?_
   refine JDp 3 rfl (y_index (j := 0) rfl rfl (by omega)) ?_
   refine JDr 4 1 rfl rfl (r_loadR1 (v := sv y1) rfl (by rw [hls]; rfl)) ?_
   refine JDp 5 rfl y_mv ?_
   refine JDp 6 rfl (y_sliceFrom (l := 1) rfl rfl (by omega) (by omega)) ?_
   rw [if_neg (show ¬ d = 1 by omega)]
   refine JDp 7 rfl (y_build (cells := #[sv y1, sv pD, .slice (some ⟨gl, 0 + 1 * 1, none⟩) (ls.length - 1) (d - 1)]) (by kernel_rfl)) ?_
   refine JDe 8 rfl (e_buildSlice (cells := [sv y1, sv pD, .slice (some ⟨gl, 0 + 1 * 1, none⟩) (ls.length - 1) (d - 1)]) [.agg #[sv y1, sv pD, .slice (some ⟨gl, 0 + 1 * 1, none⟩) (ls.length - 1) (d - 1)]] rfl lE_ rfl (fun u hu => by cases List.mem_singleton.1 hu; rfl) rfl fun bs => ⟨tok_, ?_⟩)
   refine JDe 9 rfl (e_appendP [_, _, _] [_] rfl rfl (n := 1) (xs := [sv pA, sv pD, .slice (some ⟨gl, 0, none⟩) ls.length d]) ⟨rfl, .inr ⟨bp, 1, rfl, Nat.le_refl _, by unfold maxLen; omega, rfl⟩⟩ rfl (news := [sv y1, sv pD, .slice (some ⟨gl, 0 + 1 * 1, none⟩) (ls.length - 1) (d - 1)]) rfl (Src.whole (List.mem_cons_self ..)) (fun u hu => by simp only [List.mem_cons, List.not_mem_nil, or_false] at hu; rcases hu with rfl | rfl | rfl <;> rfl) (by omega) (by unfold maxLen; omega) fun v' lp hop _ => ⟨tok_, ?_⟩)
   obtain ⟨gp, cp, rfl, hp1, -, rfl⟩ := De.own_some (id hop) (Nat.succ_pos _)
   refine JDp 10 rfl (y_fieldAddr rfl) ?_
   refine JDe 11 rfl (e_store 1 rfl rfl rfl (vs := [.slice (some ⟨gp, 0, none⟩) 2 cp]) rfl rfl rfl lE_ ⟨tok_, ?_⟩)
   refine JDd ?_
   refine RN.cast (l' := _ :: (b7, isC 43 [.slice (some ⟨bA, 0, none⟩) 4 4, .slice X (ls.length + 1) cx, .slice (some ⟨gp, 0, none⟩) 2 cp]) :: (gl, isR 9 (d * 1) (ls.map sv)) :: (gp, isR 39 (cp * 3) [sv pA, sv pD, .slice (some ⟨gl, 0, none⟩) ls.length d, sv y1, sv pD, .slice (some ⟨gl, 0 + 1 * 1, none⟩) (ls.length - 1) (d - 1)]) :: ((g3, isR 9 (d3 * 1) ((wy ls).map sv)) :: (lk ++ [(bA, isR 9 (4 * 1) ([pA, pB, pC, pD].map sv))]))) rfl ?_
   refine RN.sub (List.sublist_append_right [_] _) ?_
   refine hT4 _ _ ⟨some ⟨gp, 0, none⟩, cp, 2, _, ⟨rfl, rfl, trivial⟩, ⟨some ⟨bA, 0, none⟩, 4, X, cx, some ⟨gp, 0, none⟩, cp, [(⟨pA, pD, ls⟩, .slice (some ⟨gl, 0, none⟩) ls.length d), (⟨y1, pD, [y2]⟩, .slice (some ⟨gl, 0 + 1 * 1, none⟩) (ls.length - 1) (d - 1))], ?_, ?_, ⟨Src.whole (T := 9) (tot := 4 * 1) (ys := [pA, pB, pC, pD].map sv) (by simp), Nat.le_refl 4, fun h => by cases h⟩, ?_, ⟨?_, ?_, fun h => by cases h⟩, ?_⟩, hsl.mono fun e he => by simp only [List.mem_singleton] at he; simp [he], rfl⟩
   ·show _ = [_, Value.slice X (lnk ls).length cx, _]
    rw [lnk_len]; rfl
   ·show _ = pths ls
    unfold pths
    rw [hls]; rfl
   ·show SlV W _ X (lnk ls).length cx _
    rw [lnk_len]
    exact hxs.mono fun e he => by simp [he]
   ·exact Src.whole (T := 39) (tot := cp * 3) (ys := [sv pA, sv pD, .slice (some ⟨gl, 0, none⟩) ls.length d, sv y1, sv pD, .slice (some ⟨gl, 0 + 1 * 1, none⟩) (ls.length - 1) (d - 1)]) (by simp)
   ·exact hp1
   ·intro y hy
    simp only [List.mem_cons, List.not_mem_nil, or_false] at hy
    rcases hy with rfl | rfl
    ·exact ⟨_, d, rfl, hsl.mono fun e he => by simp only [List.mem_singleton] at he; simp [he]⟩
    ·refine ⟨_, d - 1, by rw [show ls.length - 1 = 1 by omega]; rfl, ?_, ?_, fun h => by cases h⟩
     ·have hdr := (hsl.1.drop 1).mono (r' := (gl, isR 9 (d * 1) (ls.map sv)) :: (gp, isR 39 (cp * 3) [sv pA, sv pD, .slice (some ⟨gl, 0, none⟩) ls.length d, sv y1, sv pD, .slice (some ⟨gl, 0 + 1 * 1, none⟩) (ls.length - 1) (d - 1)]) :: ((g3, isR 9 (d3 * 1) ((wy ls).map sv)) :: (lk ++ [(bA, isR 9 (4 * 1) ([pA, pB, pC, pD].map sv))]))) fun e he => by simp only [List.mem_singleton] at he; simp [he]
      rw [hls] at hdr ⊢
      exact hdr
     ·show 1 ≤ d - 1
      omega
  ·refine AU0 ?_
   refine hT4 _ _ ⟨some ⟨bp, 0, none⟩, 1, 1, _, ⟨rfl, rfl, trivial⟩, ⟨some ⟨bA, 0, none⟩, 4, X, cx, some ⟨bp, 0, none⟩, 1, [(⟨pA, pD, ls⟩, .slice B ls.length d)], ?_, ?_, ⟨Src.whole (T := 9) (tot := 4 * 1) (ys := [pA, pB, pC, pD].map sv) (by simp), Nat.le_refl 4, fun h => by cases h⟩, ?_, ⟨?_, ?_, fun h => by cases h⟩, ?_⟩, hsl.mono fun e he => by simp [he], rfl⟩
   ·show _ = [_, Value.slice X (lnk ls).length cx, _]
    rw [lnk_len]; rfl
   ·show _ = pths ls
    unfold pths
    match ls, h2 with
    | [], _ => rfl
    | [a], _ => rfl
    | [a, b], h2 => exact absurd rfl h2
    | a :: b :: c :: t, _ => rfl
   ·show SlV W _ X (lnk ls).length cx _
    rw [lnk_len]
    exact hxs.mono fun e he => by simp [he]
   ·exact Src.whole (T := 39) (tot := 1 * 3) (ys := [sv pA, sv pD, .slice B ls.length d]) (by simp)
   ·exact Nat.le_refl _
   ·intro y hy
    obtain rfl := List.mem_singleton.1 hy
    exact ⟨B, d, rfl, hsl.mono fun e he => by simp [he]⟩
 clear ho hsl hox
 rintro f l' ⟨R3, c3, n3, H0, hf, hT, hsl, rfl⟩
 refine RN.frame _ hf fun f' => ?_
 refine AU1 ?_
 refine JLp (y_build (cells := #[sv pA, sv [97, 110, 110]]) (by kernel_rfl)) ?_
 refine JLs (e_buildSlice (cells := clP.flatMap enc2) (clP.map fun z => .agg (enc2 z).toArray) rfl lE_ rfl (fun u hu => by obtain ⟨y, _, rfl⟩ := List.mem_map.1 hu; rfl) rfl fun bc => ?_)
 refine JLp (y_build (cells := #[sv pD, sv [109, 97, 105, 108]]) (by kernel_rfl)) ?_
 refine JLs (e_buildSlice (cells := svP.flatMap enc2) (svP.map fun z => .agg (enc2 z).toArray) rfl lE_ rfl (fun u hu => by obtain ⟨y, _, rfl⟩ := List.mem_map.1 hu; rfl) rfl fun bv_ => ?_)
 refine JLs (e_call rfl rfl (WNew_ok a0 (hT.mono fun e he => by simp [he]) (Ac := some ⟨bc, 0, none⟩) (nc_ := 1) ⟨Src.whole (List.mem_cons_of_mem _ (List.mem_cons_self ..)), Nat.le_refl _, fun h => by cases h⟩ (As := some ⟨bv_, 0, none⟩) (ns_ := 1) ⟨Src.whole (List.mem_cons_self ..), Nat.le_refl _, fun h => by cases h⟩) ?_)
 rintro v l' ⟨b, H, rfl, hB, rfl⟩
 have hsl2 : ∀ {e : Ent}, e ∈ H0 → e ∈ ((bv_, isR 48 (1 * 2) (svP.flatMap enc2)) :: (bc, isR 48 (1 * 2) (clP.flatMap enc2)) :: (b7, isC 43 [.slice (some ⟨bA, 0, none⟩) 4 4, .slice X (ls.length + 1) cx, .slice R3 n3 c3]) :: H0 : List Ent) := fun he => by simp [he]
 have hcl1 : w0.cl.length = 1 := by
  obtain ⟨-, -, -, -, -, -, -, _, _, _, _, -, -, -, -, rfl⟩ := initM_spec a0
  rfl
 have hsl := hsl.mono (r' := _) fun e he => hsl2 he
 generalize ((bv_, isR 48 (1 * 2) (svP.flatMap enc2)) :: (bc, isR 48 (1 * 2) (clP.flatMap enc2)) :: (b7, isC 43 [.slice (some ⟨bA, 0, none⟩) 4 4, .slice X (ls.length + 1) cx, .slice R3 n3 c3]) :: H0 : List Ent) = r at hsl
 obtain ⟨L, hw, hH⟩ := id hB
 have hcl : ∀ {r}, ∀ e ∈ L.cl, e ∈ H ++ r := fun e he => by subst hH; simp [WL.H, he]
 refine AU0 ?_
 refine JLs (e_call rfl rfl (WNet_ok (wB_mem (W := W) hH)) ?_)
 rintro v l' ⟨rfl, rfl⟩
 refine AU0 ?_
 refine JLs (e_call rfl rfl (WClient_ok hw (j := 0) (by omega) (wB_mem (W := W) hH) hcl) ?_)
 rintro v l' ⟨⟨q0, rfl⟩, rfl⟩
 refine AU0 ?_
 refine JLp (y_build (cells := (stC 1 100 0 0).toArray) (by kernel_rfl)) ?_
 refine JLs (e_call rfl rfl (Do_chase (c := 0) (s := 0) (n := 0) a1 hB) ?_)
 rintro v l' ⟨rfl, H1, hB1, rfl⟩
 refine AU0 ?_
 refine JLs (e_call rfl rfl (deliver_ok a2 hB1) ?_)
 rintro v l' ⟨rfl, H2, hB2, rfl⟩
 refine AU0 ?_
 refine JLp (y_build (cells := (stC 2 100 0 0).toArray) (by kernel_rfl)) ?_
 refine JLs (e_call rfl rfl (Do_ask (c := 0) (s := 0) (n := 0) a3 hB2) ?_)
 rintro v l' ⟨rfl, H3, hB3, rfl⟩
 refine AU0 ?_
 refine JLs (e_call rfl rfl (deliver_ok a4 hB3) ?_)
 rintro v l' ⟨rfl, H4, hB4, rfl⟩
 refine AU0 ?_
 refine JLs (e_call rfl rfl (Accepts_ok hB4 (by rw [a5]; exact Nat.le_refl 1) (by rw [a5]; intro y hy; obtain rfl := List.mem_singleton.1 hy; rw [a6]; omega)) ?_)
 rintro v l' ⟨l9, hv, rfl⟩
 rw [a5] at hv
 obtain ⟨g9, cap9, A9, c9, rfl, hm9, hs9⟩ := hv
 rw [a6] at hm9 hs9
 obtain ⟨i9, hi9⟩ := List.mem_iff_getElem?.1 (List.mem_append_left (H4 ++ r) hm9)
 repeat (first | refine JLp (y_index (j := 0) rfl rfl (by omega)) ?_ | refine AS0 ?_)
 refine JL.read i9 hi9 rfl (r_loadR1 (v := .slice A9 ls.length c9) rfl rfl) ?_
 refine AU0 ?_
 refine JC.loop (fun m f l => ∃ (j : Nat), j + m = ls.length ∧ FrOk f [(4, .slice B ls.length d), (12, .slice (some ⟨g9, 0, none⟩) 1 cap9), (13, iv (j : Int))] ∧ l = l9 ++ (H4 ++ r)) ls.length ?_ ?_
 ·exact ⟨0, by omega, ⟨rfl, rfl, rfl, trivial⟩, rfl⟩
 rintro m f l ⟨j, hm, hf, rfl⟩
 refine JC.frame _ hf fun f' => ?_
 by_cases hj : j < ls.length
 ·have hy := List.getElem?_eq_getElem hj
  obtain ⟨gb, go, rfl, S1, hS1, hc1⟩ := hs9.1.look (by rw [List.length_map]; omega)
  obtain ⟨gc, gq, rfl, S2, hS2, hc2⟩ := hsl.1.look (by rw [List.length_map]; omega)
  have hz : ∀ (xs : List S) (h : j < xs.length), (xs.map sv)[j]? = some (sv (xs[j]'h)) := fun xs h => by rw [List.getElem?_map, List.getElem?_eq_getElem h]; rfl
  refine AU0 ?_
  refine JC.drawn 12 rfl mixed ?_
  refine JDp 0 rfl y_mv ?_
  refine JDp 1 rfl (y_index (j := 0) rfl rfl (by omega)) ?_
  refine JDp 2 rfl (y_fieldAddr rfl) ?_
  refine JDr 3 i9 hi9 rfl (r_loadR1 (v := .slice (some ⟨gb, go, none⟩) ls.length c9) rfl rfl) ?_
  refine JDp 4 rfl y_mv ?_
  refine JDp 5 rfl (y_index (j := j) rfl rfl (by omega)) ?_
  refine JD.readS 6 S1 l9 rfl (by kernel_rfl) (by kernel_rfl) rfl hS1 (fun e he => by simp [he]) (y_loadIf (v := sv (ls[j]'hj)) rfl (fun ww hww => by have := hc1 j _ (hz ls hj) ww hww; simpa using this)) ?_
  refine JDp 7 rfl y_mv ?_
  refine JDp 8 rfl y_mv ?_
  refine JDp 9 rfl (y_index (j := j) rfl rfl (by omega)) ?_
  refine JD.readS 10 S2 r rfl (by kernel_rfl) (by kernel_rfl) rfl hS2 (fun e he => by simp [he]) (y_loadIf (v := sv (ls[j]'hj)) rfl (fun ww hww => by have := hc2 j _ (hz ls hj) ww hww; simpa using this)) ?_
  refine JDp 11 rfl (y_neqS (r := false) rfl rfl (by rw [eqSS_same rfl]; rfl)) ?_
  refine JDd ?_
  refine AU0 ?_
  exact RN.loop (m' := m - 1) (by omega) ⟨j + 1, by omega, ⟨rfl, rfl, rfl, trivial⟩, rfl⟩
 ·obtain rfl : j = ls.length := by omega
  obtain ⟨z0, z1, h0, h1, h2⟩ := start_all
  refine AU0 ?_
  refine JLs (e_call rfl rfl (known_ok h0 h1 h2) ?_)
  rintro v l' ⟨rfl, Y, rfl⟩
  refine AU0 ?_
  exact JC.ret (RT.one rfl rfl (v := .bool true) rfl rfl)
end Go.Proofs.YtbalcgjphkdecaaGreatDoor.To
