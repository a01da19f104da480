/- The law by itself: what the machine computes, and the walk through the law's own function. -/

import Derived.Test.YtbalcgjphkdecaaGreatDoorK6
set_option linter.unusedVariables false
set_option linter.unusedSimpArgs false
set_option maxHeartbeats 8000000
namespace Go.Proofs.YtbalcgjphkdecaaGreatDoor.To
open Go.RowKit Go.Lg
set_option maxRecDepth 100000
def ticksM (c s b : Nat) : Nat → WS → Option WS
 | 0, w => some w
 | n + 1, w => match tickW w ((100 + c : Nat) : Int) (b : Int) with
  | some w1 => match tickW w1 ((200 + s : Nat) : Int) (b : Int) with
   | some w2 => ticksM c s b n w2
   | none => none
  | none => none
def lateB (c s b : Nat) : Bool := match chasedM c s with
 | some (_, _, w2) => match ticksM c s b 2 w2 with
  | some w3 => match askW w3 c s with
   | some (some w4) => decide (2 * b ≤ 1000) && (match runB 300 w4 with
    | some w5 => accB w5 1
    | none => false)
   | some none => decide (1000 < 2 * b) && (match runB 300 w3 with
    | some w5 => accB w5 0
    | none => false)
   | none => false
  | none => false
 | none => false
theorem lateB_spec {c s b : Nat} (h : lateB c s b = true) : ∃ w0 w1 w2 w3, initM forestT clsP svsP = some w0 ∧ chaseW w0 c s = some w1 ∧ runB 300 w1 = some w2 ∧ ticksM c s b 2 w2 = some w3 ∧
    ((2 * b ≤ 1000 ∧ ∃ w4 w5, askW w3 c s = some (some w4) ∧ runB 300 w4 = some w5 ∧ w5.acc.length = 1 ∧ ∀ x ∈ w5.acc, x.tr.length ≤ 1000) ∨
     (1000 < 2 * b ∧ askW w3 c s = some none ∧ ∃ w5, runB 300 w3 = some w5 ∧ w5.acc.length = 0)) := by
  unfold lateB at h
  split at h
  case h_2 => cases h
  rename_i w0 w1 w2 h0
  obtain ⟨a0, a1, a2⟩ := chasedM_spec h0
  split at h
  case h_2 => cases h
  rename_i w3 h3
  refine ⟨w0, w1, w2, w3, a0, a1, a2, h3, ?_⟩
  split at h
  · rename_i w4 h4
    obtain ⟨hb, h⟩ := Bool.and_eq_true_iff.1 h
    split at h
    case h_2 => cases h
    rename_i w5 h5
    unfold accB at h
    simp only [Bool.and_eq_true, decide_eq_true_eq, List.all_eq_true] at h
    exact .inl ⟨of_decide_eq_true hb, w4, w5, h4, h5, h.1, h.2⟩
  · rename_i h4
    obtain ⟨hb, h⟩ := Bool.and_eq_true_iff.1 h
    split at h
    case h_2 => cases h
    rename_i w5 h5
    unfold accB at h
    simp only [Bool.and_eq_true, decide_eq_true_eq, List.all_eq_true] at h
    exact .inr ⟨of_decide_eq_true hb, h4, w5, h5, h.1⟩
  · cases h
set_option maxRecDepth 100000
theorem late_00 : ((List.range 1001).all fun b => lateB 0 0 b) = true := by decide +kernel
theorem late_01 : ((List.range 1001).all fun b => lateB 0 1 b) = true := by decide +kernel
theorem late_02 : ((List.range 1001).all fun b => lateB 0 2 b) = true := by decide +kernel
theorem late_10 : ((List.range 1001).all fun b => lateB 1 0 b) = true := by decide +kernel
theorem late_11 : ((List.range 1001).all fun b => lateB 1 1 b) = true := by decide +kernel
theorem late_12 : ((List.range 1001).all fun b => lateB 1 2 b) = true := by decide +kernel
theorem late_20 : ((List.range 1001).all fun b => lateB 2 0 b) = true := by decide +kernel
theorem late_21 : ((List.range 1001).all fun b => lateB 2 1 b) = true := by decide +kernel
theorem late_22 : ((List.range 1001).all fun b => lateB 2 2 b) = true := by decide +kernel
theorem late_yes (c s b : Nat) (hc : c < 3) (hs : s < 3) (hb : b < 1001) : lateB c s b = true := by
 have hm : b ∈ List.range 1001 := List.mem_range.2 hb
 match c, s, hc, hs with
 | 0, 0, _, _ => exact List.all_eq_true.1 late_00 b hm
 | 0, 1, _, _ => exact List.all_eq_true.1 late_01 b hm
 | 0, 2, _, _ => exact List.all_eq_true.1 late_02 b hm
 | 1, 0, _, _ => exact List.all_eq_true.1 late_10 b hm
 | 1, 1, _, _ => exact List.all_eq_true.1 late_11 b hm
 | 1, 2, _, _ => exact List.all_eq_true.1 late_12 b hm
 | 2, 0, _, _ => exact List.all_eq_true.1 late_20 b hm
 | 2, 1, _, _ => exact List.all_eq_true.1 late_21 b hm
 | 2, 2, _, _ => exact List.all_eq_true.1 late_22 b hm
attribute [local irreducible] JC JL JD RN RT Eff Yld YldIf Tr partsL okR splitL wordB joinD fit betweenS laidS viaS De.wrapB De.num De.clampI K Se.sealB Pa.byts Au.byts RP.byts Mg.byts Se.inc tillM Sp.kst runB initM chaseW askW tickW
theorem late_law (c s by_ : Int) (W : World) : Tr Pg 4 #[iv c, iv s, iv by_] W [] fun v _ => v = .bool true := by
 refine Tr.of_code (args := [_, _, _]) Tryz.func4 rfl Tryz.ntmps4 lE_ ?_
 by_cases g1 : c < 0
 ·refine AU0 ?_
  exact JC.ret (RT.one rfl rfl (v := .bool true) rfl rfl)
 by_cases g2 : 2 < c
 ·refine AU0 ?_
  exact JC.ret (RT.one rfl rfl (v := .bool true) rfl rfl)
 by_cases g3 : s < 0
 ·refine AU0 ?_
  exact JC.ret (RT.one rfl rfl (v := .bool true) rfl rfl)
 by_cases g4 : 2 < s
 ·refine AU0 ?_
  exact JC.ret (RT.one rfl rfl (v := .bool true) rfl rfl)
 by_cases g5 : by_ < 0
 ·refine AU0 ?_
  exact JC.ret (RT.one rfl rfl (v := .bool true) rfl rfl)
 by_cases g6 : 1000 < by_
 ·refine AU0 ?_
  exact JC.ret (RT.one rfl rfl (v := .bool true) rfl rfl)
 obtain ⟨c, rfl⟩ : ∃ n : Nat, c = (n : Int) := ⟨c.toNat, by omega⟩
 obtain ⟨s, rfl⟩ : ∃ n : Nat, s = (n : Int) := ⟨s.toNat, by omega⟩
 obtain ⟨k, rfl⟩ : ∃ n : Nat, by_ = (n : Int) := ⟨by_.toNat, by omega⟩
 obtain ⟨w0, w1, w2, w3, a0, a1, a2, a3, a4⟩ := lateB_spec (c := c) (s := s) (b := k) (by
  exact late_yes c s k (by omega) (by omega) (by omega))
 obtain ⟨x1, x2, x3⟩ := start_spec a0
 refine AU0 ?_
 refine JLs (e_call rfl rfl (begin_ok a0) ?_)
 rintro v l' ⟨b, H, rfl, hB, rfl⟩
 refine AU0 ?_
 refine JLp (y_build (cells := (stC 1 (100 + (c : Int)) 0 (s : Int)).toArray) (by kernel_rfl)) ?_
 refine JLs (e_call rfl rfl (Do_chase (n := 0) a1 hB) ?_)
 rintro v l' ⟨rfl, H1, hB1, rfl⟩
 refine AU0 ?_
 refine JLs (e_call rfl rfl (deliver_ok a2 hB1) ?_)
 rintro v l' ⟨rfl, H2, hB2, rfl⟩
 refine AU0 ?_
 refine JC.loop (fun m f l => ∃ (i : Nat) (w : WS) (H : List Ent), i + m = 2 ∧ FrOk f [(0, iv (c : Int)), (1, iv (s : Int)), (2, iv (k : Int)), (7, ptr b), (8, iv (i : Int))] ∧ ticksM c s k m w = some w3 ∧ WorldB W b w H ∧ l = H ++ []) 2 ?_ ?_
 ·exact ⟨0, w2, H2, rfl, ⟨rfl, rfl, rfl, rfl, rfl, trivial⟩, a3, hB2, rfl⟩
 rintro m f l ⟨i, w, H, hm, hf, hti, hB, rfl⟩
 refine JC.frame _ hf fun f' => ?_
 cases m with
 | succ m =>
  unfold ticksM at hti
  split at hti
  case h_2 => cases hti
  rename_i y1 hy1
  split at hti
  case h_2 => cases hti
  rename_i y2 hy2
  refine AU0 ?_
  refine JLp (y_build (cells := (stC 6 (100 + (c : Int)) (k : Int) 0).toArray) (by kernel_rfl)) ?_
  refine JLs (e_call rfl rfl (Do_tick (nd := 100 + (c : Int)) (n := (k : Int)) hy1 hB) ?_)
  rintro v l' ⟨rfl, H3, hB3, rfl⟩
  refine AU0 ?_
  refine JLp (y_build (cells := (stC 6 (200 + (s : Int)) (k : Int) 0).toArray) (by kernel_rfl)) ?_
  refine JLs (e_call rfl rfl (Do_tick (nd := 200 + (s : Int)) (n := (k : Int)) hy2 hB3) ?_)
  rintro v l' ⟨rfl, H4, hB4, rfl⟩
  refine AU0 ?_
  exact RN.loop (m' := m) (by omega) ⟨i + 1, y2, H4, by omega, ⟨rfl, rfl, rfl, rfl, rfl, trivial⟩, hti, hB4, rfl⟩
 | zero =>
  obtain rfl : w = w3 := Option.some.inj hti
  refine AU0 ?_
  refine JLp (y_build (cells := (stC 2 (100 + (c : Int)) 0 (s : Int)).toArray) (by kernel_rfl)) ?_
  rcases a4 with ⟨hk, w4, w5, a4, a5, a6, a7⟩ | ⟨hk, a4, w5, a5, a6⟩
  ·refine JLs (e_call rfl rfl (Do_ask (n := 0) a4 hB) ?_)
   rintro v l' ⟨rfl, H4, hB4, rfl⟩
   refine AU0 ?_
   refine JLs (e_call rfl rfl (deliver_ok a5 hB4) ?_)
   rintro v l' ⟨rfl, H5, hB5, rfl⟩
   repeat (first | refine JLp (y_mul rfl rfl (wrap_add (by omega) (by omega))) ?_ | refine AS0 ?_)
   refine JLs (e_call rfl rfl (Accepts_ok hB5 (by omega) a7) ?_)
   rintro v l' ⟨le, hv, rfl⟩
   obtain ⟨A, n, cc, rfl, hn⟩ := hv.len
   rw [a6] at hn
   refine AU0 ?_
   refine JLs (e_call rfl rfl (known_ok a0 x2 x3) ?_)
   rintro v l' ⟨rfl, Y, rfl⟩
   refine AU0 ?_
   exact JC.ret (RT.one rfl rfl (v := .bool true) rfl rfl)
  ·refine JLs (e_call rfl rfl (Do_askNo (n := 0) a4 hB) ?_)
   rintro v l' ⟨rfl, rfl⟩
   refine AU0 ?_
   refine JLs (e_call rfl rfl (deliver_ok a5 hB) ?_)
   rintro v l' ⟨rfl, H5, hB5, rfl⟩
   repeat (first | refine JLp (y_mul rfl rfl (wrap_add (by omega) (by omega))) ?_ | refine AS0 ?_)
   refine JLs (e_call rfl rfl (Accepts_ok hB5 (by omega) (by rw [List.eq_nil_of_length_eq_zero a6]; intro x hx; cases hx)) ?_)
   rintro v l' ⟨le, hv, rfl⟩
   obtain ⟨A, n, cc, rfl, hn⟩ := hv.len
   rw [a6] at hn
   refine AU0 ?_
   refine JLs (e_call rfl rfl (known_ok a0 x2 x3) ?_)
   rintro v l' ⟨rfl, Y, rfl⟩
   refine AU0 ?_
   exact JC.ret (RT.one rfl rfl (v := .bool true) rfl rfl)
end Go.Proofs.YtbalcgjphkdecaaGreatDoor.To
