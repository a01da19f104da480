/- What the law of the whole stands on, part 4 of 6: the heap as it lies, and a contract for each function that the law reaches. -/

import Derived.Test.YtbalcgjphkdecaaGreatDoorK3
set_option linter.unusedVariables false
set_option linter.unusedSimpArgs false
namespace Go.Proofs.YtbalcgjphkdecaaGreatDoor.To
open Go.RowKit Go.Lg
set_option maxRecDepth 100000
theorem inc_nat {n : Nat} (h : n ≤ 1000010) : Se.inc (n : Int) = ((n + 1 : Nat) : Int) := by
 unfold Se.inc
 rw [wrap_add (by omega) (by omega)]
 omega
def Rp.cells (q : Rp) (w1 w2 : Value) : List Value := [sv q.cl.1, sv q.cl.2, sv q.tk.sv_.1, sv q.tk.sv_.2, iv q.tk.kv, w1, w2]
def ansC (to : P2) (p : Pa) (nc : Int) (xb : Nat) (u : Int) : List Value := [sv to.1, sv to.2] ++ (p.cells ++ [iv nc, ptr xb, iv u])
attribute [local irreducible] JC JL JD RN RT Eff Yld YldIf Tr partsL okR splitL wordB joinD fit betweenS laidS viaS De.wrapB De.num De.clampI K Se.sealB Pa.byts Au.byts RP.byts Se.inc
theorem KTime_yes {n : Int} (h : tm n) {W : World} {l : List Ent} : Tr Pg 160 #[iv n] W l fun v l' => v = .bool true ∧ l' = l := by
 obtain ⟨h1, h2⟩ := h
 refine Tr.of_code (args := [_]) Tryz.func160 rfl Tryz.ntmps160 lE_ ?_
 refine AU0 ?_
 exact JC.ret (RT.one rfl rfl rfl ⟨rfl, rfl⟩)
theorem CTime_yes {n : Int} (h : tm n) {W : World} {l : List Ent} : Tr Pg 86 #[iv n] W l fun v l' => v = .bool true ∧ l' = l := by
 obtain ⟨h1, h2⟩ := h
 refine Tr.of_code (args := [_]) Tryz.func86 rfl Tryz.ntmps86 lE_ ?_
 refine AU0 ?_
 exact JC.ret (RT.one rfl rfl rfl ⟨rfl, rfl⟩)
theorem grants_ok {kb rb n iss : Nat} {R : S} {t1 t2 t3 : Value} {s : S} (hs : s.length ≤ 1000) {W : World} {l : List Ent} (he : (kb, isC 177 [sv R, t1, t2, t3, ptr rb, iv n, iv iss]) ∈ l) : Tr Pg 162 #[ptr kb, sv s] W l fun v l' => v = pv (R, grantS ++ s) ∧ l' = l := by
 obtain ⟨i, hi⟩ := List.mem_iff_getElem?.1 he
 refine Tr.of_code (args := [_, _]) Tryz.func162 rfl Tryz.ntmps162 lE_ ?_
 refine AU0 ?_
 refine JLs (e_alloc fun b4 => ?_)
 refine AU0 ?_
 refine JC.drawn 8 rfl mixed ?_
 refine JDp 0 rfl y_mv ?_
 refine JDp 1 rfl (y_nilCheck rfl) ?_
 refine JDp 2 rfl (y_fieldAddr rfl) ?_
 refine JD.read 3 (i + 1) hi rfl (by kernel_rfl) (by kernel_rfl) rfl (r_load1 rfl rfl) ?_
 refine JDp 4 rfl y_mv ?_
 refine JDe 5 rfl (e_call rfl rfl (Krbtgt_ok (r := s) hs) ?_)
 rintro v l' ⟨rfl, rfl⟩
 refine ⟨TOk.mem (List.mem_cons_of_mem _ he) TOk.nil, ?_⟩
 refine JDp 6 rfl (y_build (cells := (enc2 (R, grantS ++ s)).toArray) rfl) ?_
 refine JDe 7 rfl (e_store 0 rfl rfl rfl (vs := enc2 (R, grantS ++ s)) rfl rfl rfl lE_ ⟨TOk.mem (List.mem_cons_of_mem _ he) TOk.nil, ?_⟩)
 refine JDd ?_
 refine RN.cast (l' := (b4, isC 48 (enc2 (R, grantS ++ s))) :: l) rfl ?_
 refine AU0 ?_
 exact JC.ret (ret_cell rfl rfl 0 rfl rfl rfl (List.sublist_cons_self _ _) ⟨rfl, rfl⟩)
theorem next_ok {kb rb n iss : Nat} {R : S} {t1 t2 t3 : Value} (hn : n ≤ 1000010) {m : Nat} (hm : m = n + 1) {W : World} {r : List Ent} : Tr Pg 208 #[ptr kb] W ((kb, isC 177 [sv R, t1, t2, t3, ptr rb, iv n, iv iss]) :: r) fun v l' => v = iv (m : Int) ∧ l' = (kb, isC 177 [sv R, t1, t2, t3, ptr rb, iv (m : Int), iv iss]) :: r := by
 have hi := inc_nat hn
 rw [← hm] at hi
 refine Tr.of_code (args := [_]) Tryz.func208 rfl Tryz.ntmps208 lE_ ?_
 refine AU0 ?_
 refine JLs (e_call rfl rfl (Se.Add64_ok (o := 5) (x := (n : Int)) 0 rfl rfl) ?_)
 rintro v l' ⟨rfl, rfl⟩
 rw [hi]
 refine JL.cast (l' := (kb, isC 177 [sv R, t1, t2, t3, ptr rb, iv (m : Int), iv iss]) :: r) rfl ?_
 refine AU0 ?_
 exact JC.ret (RT.one rfl rfl rfl ⟨rfl, rfl⟩)
set_option maxHeartbeats 400000 in
theorem makes_ok {kb rb n iss : Nat} {R : S} {t1 t2 t3 : Value} {bl : List RB} {RH BH r : List Ent} {W : World} (hB : RingB rb bl RH) (hm : bl.length ≤ 1000) {to : P2} {k : Nat} {it : RI} (hl : lastAt (isP to) (bl.map RB.it) 0 = some (k, it)) (hto : okP to) (hn : n ≤ 1000000) (hiss : iss ≤ 1000000)
  {p : Pa} (hp : p.good) {nc : Int} (hnc : tm nc) {kyy : Bs} {xb u : Nat} (hu : u ≤ 255)
  (hbox : ∀ (r' : List Ent) (q : Nat) (bs : Bs) (v : Value), q ≤ 1000002 → bs.length ≤ 784 → BV W r' v bs → Tr Pg 121 #[ptr xb, iv u, iv q, v] W (RH ++ (BH ++ r')) fun v l' => ∃ v1 le, v = .tuple #[v1, iv 0] ∧ OwnB v1 (Se.sealB kyy u (BitVec.ofNat 64 q) bs) le ∧ l' = le ++ (RH ++ (BH ++ r'))) :
  Tr Pg 163 #[ptr kb, .agg (ansC to p nc xb u).toArray] W ((kb, isC 177 [sv R, t1, t2, t3, ptr rb, iv n, iv iss]) :: (RH ++ (BH ++ r))) fun v l' => ∃ w1 w2 le, v = .tuple #[.agg ((Rp.mk p.cl ⟨to, it.kv, Se.sealB (K it.k) 2 (BitVec.ofNat 64 (n + 1)) p.byts⟩ []).cells w1 w2).toArray, iv 0] ∧
   BV W le w1 (Se.sealB (K it.k) 2 (BitVec.ofNat 64 (n + 1)) p.byts) ∧ BV W le w2 (Se.sealB kyy u (BitVec.ofNat 64 (n + 2)) (RP.mk p.ses to p.st p.en nc).byts) ∧ l' = le ++ ((kb, isC 177 [sv R, t1, t2, t3, ptr rb, iv ((n + 2 : Nat) : Int), iv ((iss + 1 : Nat) : Int)]) :: (RH ++ (BH ++ r))) := by
 have hpb := Pa.byts_le hp
 have hrg : (RP.mk p.ses to p.st p.en nc).good := ⟨hp.2.1, hto, hp.2.2.2.1, hp.2.2.2.2, hnc⟩
 have hrb := RP.byts_le hrg
 have hiss' := inc_nat (n := iss) (by omega)
 obtain ⟨cl, ses, tr, st, en⟩ := p
 dsimp only at *
 obtain ⟨ka, kbb, kc, kd, ke, kf, kg, ki, kj, kk, kl, km, kn, ko, kp, kq, kA, kB, kC, kD, kE, kF, kG, kI, kJ, kK, kL, kM, kN, kO, kP, kQ, rfl⟩ := len32 hp.2.1
 refine Tr.of_code (args := [_, _]) Tryz.func163 rfl Tryz.ntmps163 lE_ ?_
 refine AU0 ?_
 refine JLs (e_box (cs := [sv to.1, sv to.2, sv cl.1, sv cl.2, bv ka, bv kbb, bv kc, bv kd, bv ke, bv kf, bv kg, bv ki, bv kj, bv kk, bv kl, bv km, bv kn, bv ko, bv kp, bv kq, bv kA, bv kB, bv kC, bv kD, bv kE, bv kF, bv kG, bv kI, bv kJ, bv kK, bv kL, bv kM, bv kN, bv kO, bv kP, bv kQ, sv tr, iv st, iv en, iv nc, ptr xb, iv u]) rfl rfl fun b3 => ?_)
 refine JLs (e_alloc fun b4 => ?_)
 refine AU0 ?_
 refine JC.drawn 14 rfl mixed ?_
 refine JDp 0 rfl y_mv ?_
 refine JDp 1 rfl (y_nilCheck rfl) ?_
 refine JDp 2 rfl (y_fieldAddr rfl) ?_
 refine JDr 3 2 rfl rfl (r_load1 rfl rfl) ?_
 refine JDp 4 rfl (y_fieldAddr rfl) ?_
 refine JDr 5 1 rfl rfl (r_loadA rfl lE_ rfl) ?_
 refine JDe 6 rfl (e_call rfl rfl (Tr.perm (l' := RH ++ ((b4, isC 203 [.string ByteArray.empty, .string ByteArray.empty, .string ByteArray.empty, .string ByteArray.empty, .int .i64 0, .slice none 0 0, .slice none 0 0]) :: (b3, isC 300 [sv to.1, sv to.2, sv cl.1, sv cl.2, bv ka, bv kbb, bv kc, bv kd, bv ke, bv kf, bv kg, bv ki, bv kj, bv kk, bv kl, bv km, bv kn, bv ko, bv kp, bv kq, bv kA, bv kB, bv kC, bv kD, bv kE, bv kF, bv kG, bv kI, bv kJ, bv kK, bv kL, bv kM, bv kN, bv kO, bv kP, bv kQ, sv tr, iv st, iv en, iv nc, ptr xb, iv u]) :: (kb, isC 177 [sv R, t1, t2, t3, ptr rb, iv n, iv iss]) :: (BH ++ r))) (perm_mid [_, _, _] RH (BH ++ r)) (Last_ok hB hm hl)) ?_)
 rintro v l' ⟨rfl, x, hx, hxi, rfl⟩
 refine ⟨tok_, ?_⟩
 refine JDp 7 rfl y_mv ?_
 refine JDp 8 rfl (y_extract rfl rfl) ?_
 refine JDp 9 rfl (y_extract rfl rfl) ?_
 refine JDp 10 rfl (y_extract rfl rfl) ?_
 refine JDp 11 rfl y_as ?_
 refine JDp 12 rfl y_as ?_
 refine JDp 13 rfl y_as ?_
 refine JDd ?_
 refine RN.perm (l' := (b4, isC 203 [.string ByteArray.empty, .string ByteArray.empty, .string ByteArray.empty, .string ByteArray.empty, .int .i64 0, .slice none 0 0, .slice none 0 0]) :: (b3, isC 300 [sv to.1, sv to.2, sv cl.1, sv cl.2, bv ka, bv kbb, bv kc, bv kd, bv ke, bv kf, bv kg, bv ki, bv kj, bv kk, bv kl, bv km, bv kn, bv ko, bv kp, bv kq, bv kA, bv kB, bv kC, bv kD, bv kE, bv kF, bv kG, bv kI, bv kJ, bv kK, bv kL, bv kM, bv kN, bv kO, bv kP, bv kQ, sv tr, iv st, iv en, iv nc, ptr xb, iv u]) :: (kb, isC 177 [sv R, t1, t2, t3, ptr rb, iv n, iv iss]) :: (RH ++ (BH ++ r))) (perm_mid [_, _, _] RH (BH ++ r)).symm ?_
 refine AU3 ?_
 refine JLs (e_call rfl rfl (EncodePart_ok (p := (Pa.mk cl [ka, kbb, kc, kd, ke, kf, kg, ki, kj, kk, kl, km, kn, ko, kp, kq, kA, kB, kC, kD, kE, kF, kG, kI, kJ, kK, kL, kM, kN, kO, kP, kQ] tr st en)) hp) ?_)
 rintro v l' ⟨v1, le1, rfl, ho1, rfl⟩
 refine JL.perm (l' := (b4, isC 203 [.string ByteArray.empty, .string ByteArray.empty, .string ByteArray.empty, .string ByteArray.empty, .int .i64 0, .slice none 0 0, .slice none 0 0]) :: (b3, isC 300 [sv to.1, sv to.2, sv cl.1, sv cl.2, bv ka, bv kbb, bv kc, bv kd, bv ke, bv kf, bv kg, bv ki, bv kj, bv kk, bv kl, bv km, bv kn, bv ko, bv kp, bv kq, bv kA, bv kB, bv kC, bv kD, bv kE, bv kF, bv kG, bv kI, bv kJ, bv kK, bv kL, bv kM, bv kN, bv kO, bv kP, bv kQ, sv tr, iv st, iv en, iv nc, ptr xb, iv u]) :: (kb, isC 177 [sv R, t1, t2, t3, ptr rb, iv n, iv iss]) :: (RH ++ (BH ++ (le1 ++ r)))) prm_ ?_
 repeat (first | refine JLp (y_build (cells := (((RP.mk [ka, kbb, kc, kd, ke, kf, kg, ki, kj, kk, kl, km, kn, ko, kp, kq, kA, kB, kC, kD, kE, kF, kG, kI, kJ, kK, kL, kM, kN, kO, kP, kQ] to st en nc)).cells).toArray) (by kernel_rfl)) ?_ | refine AS2 ?_)
 refine JLs (e_call rfl rfl (EncodeRep_ok hrg) ?_)
 rintro v l' ⟨v2, le2, rfl, ho2, rfl⟩
 refine JL.perm (l' := (kb, isC 177 [sv R, t1, t2, t3, ptr rb, iv n, iv iss]) :: (RH ++ (BH ++ ((b4, isC 203 [.string ByteArray.empty, .string ByteArray.empty, .string ByteArray.empty, .string ByteArray.empty, .int .i64 0, .slice none 0 0, .slice none 0 0]) :: (b3, isC 300 [sv to.1, sv to.2, sv cl.1, sv cl.2, bv ka, bv kbb, bv kc, bv kd, bv ke, bv kf, bv kg, bv ki, bv kj, bv kk, bv kl, bv km, bv kn, bv ko, bv kp, bv kq, bv kA, bv kB, bv kC, bv kD, bv kE, bv kF, bv kG, bv kI, bv kJ, bv kK, bv kL, bv kM, bv kN, bv kO, bv kP, bv kQ, sv tr, iv st, iv en, iv nc, ptr xb, iv u]) :: (le2 ++ (le1 ++ r)))))) prm_ ?_
 refine AU0 ?_
 refine JLs (e_call rfl rfl (next_ok (by omega) (m := n + 1) rfl) ?_)
 rintro v l' ⟨rfl, rfl⟩
 refine AU0 ?_
 refine JLs (e_call rfl rfl (Tr.perm (l' := RH ++ ((kb, isC 177 [sv R, t1, t2, t3, ptr rb, iv ((n + 1 : Nat) : Int), iv iss]) :: (BH ++ ((b4, isC 203 [.string ByteArray.empty, .string ByteArray.empty, .string ByteArray.empty, .string ByteArray.empty, .int .i64 0, .slice none 0 0, .slice none 0 0]) :: (b3, isC 300 [sv to.1, sv to.2, sv cl.1, sv cl.2, bv ka, bv kbb, bv kc, bv kd, bv ke, bv kf, bv kg, bv ki, bv kj, bv kk, bv kl, bv km, bv kn, bv ko, bv kp, bv kq, bv kA, bv kB, bv kC, bv kD, bv kE, bv kF, bv kG, bv kI, bv kJ, bv kK, bv kL, bv kM, bv kN, bv kO, bv kP, bv kQ, sv tr, iv st, iv en, iv nc, ptr xb, iv u]) :: (le2 ++ (le1 ++ r)))))) prm_ (RSeal_ok hB hx (u := 2) (n := n + 1) (by decide) (by omega) (by omega) ((BV.own (W := W) ho1).mono fun e he => by simp [he]))) ?_)
 rintro v l' ⟨v3, le3, rfl, ho3, rfl⟩
 rw [hxi] at ho3
 obtain ⟨A3, c3, rfl, hs3, hc3, hn3⟩ := De.own_src (W := W) ho3
 refine JL.perm (l' := (kb, isC 177 [sv R, t1, t2, t3, ptr rb, iv ((n + 1 : Nat) : Int), iv iss]) :: (b4, isC 203 [.string ByteArray.empty, .string ByteArray.empty, .string ByteArray.empty, .string ByteArray.empty, .int .i64 0, .slice none 0 0, .slice none 0 0]) :: (b3, isC 300 [sv to.1, sv to.2, sv cl.1, sv cl.2, bv ka, bv kbb, bv kc, bv kd, bv ke, bv kf, bv kg, bv ki, bv kj, bv kk, bv kl, bv km, bv kn, bv ko, bv kp, bv kq, bv kA, bv kB, bv kC, bv kD, bv kE, bv kF, bv kG, bv kI, bv kJ, bv kK, bv kL, bv kM, bv kN, bv kO, bv kP, bv kQ, sv tr, iv st, iv en, iv nc, ptr xb, iv u]) :: (RH ++ (BH ++ (le3 ++ (le2 ++ (le1 ++ r)))))) prm_ ?_
 refine AU0 ?_
 refine JC.drawn 13 rfl mixed ?_
 refine JDp 0 rfl (y_fieldAddr rfl) ?_
 refine JDr 1 2 rfl rfl (r_load1 rfl rfl) ?_
 refine JDp 2 rfl (y_fieldAddr rfl) ?_
 refine JDr 3 2 rfl rfl (r_load1 rfl rfl) ?_
 refine JDp 4 rfl y_mv ?_
 refine JDp 6 rfl y_mv ?_
 refine JDe 5 rfl (e_call rfl rfl (next_ok (by omega) (m := n + 2) rfl) ?_)
 rintro v l' ⟨rfl, rfl⟩
 refine ⟨tok_, ?_⟩
 refine JDe 7 rfl (e_call rfl rfl (Tr.perm (l' := RH ++ (BH ++ ((kb, isC 177 [sv R, t1, t2, t3, ptr rb, iv ((n + 2 : Nat) : Int), iv iss]) :: (b4, isC 203 [.string ByteArray.empty, .string ByteArray.empty, .string ByteArray.empty, .string ByteArray.empty, .int .i64 0, .slice none 0 0, .slice none 0 0]) :: (b3, isC 300 [sv to.1, sv to.2, sv cl.1, sv cl.2, bv ka, bv kbb, bv kc, bv kd, bv ke, bv kf, bv kg, bv ki, bv kj, bv kk, bv kl, bv km, bv kn, bv ko, bv kp, bv kq, bv kA, bv kB, bv kC, bv kD, bv kE, bv kF, bv kG, bv kI, bv kJ, bv kK, bv kL, bv kM, bv kN, bv kO, bv kP, bv kQ, sv tr, iv st, iv en, iv nc, ptr xb, iv u]) :: (le3 ++ (le2 ++ (le1 ++ r)))))) prm_ (hbox _ (n + 2) _ _ (by omega) (by omega) ((BV.own (W := W) ho2).mono fun e he => by simp [he]))) ?_)
 rintro v l' ⟨v4, le4, rfl, ho4, rfl⟩
 refine ⟨tok_, ?_⟩
 refine JDp 8 rfl y_mv ?_
 refine JDp 9 rfl (y_extract rfl rfl) ?_
 refine JDp 10 rfl (y_extract rfl rfl) ?_
 refine JDp 11 rfl y_as ?_
 refine JDp 12 rfl y_as ?_
 refine JDd ?_
 obtain ⟨A4, c4, rfl, hs4, hc4, hn4⟩ := De.own_src (W := W) ho4
 refine RN.perm (l' := (kb, isC 177 [sv R, t1, t2, t3, ptr rb, iv ((n + 2 : Nat) : Int), iv iss]) :: (b4, isC 203 [.string ByteArray.empty, .string ByteArray.empty, .string ByteArray.empty, .string ByteArray.empty, .int .i64 0, .slice none 0 0, .slice none 0 0]) :: (b3, isC 300 [sv to.1, sv to.2, sv cl.1, sv cl.2, bv ka, bv kbb, bv kc, bv kd, bv ke, bv kf, bv kg, bv ki, bv kj, bv kk, bv kl, bv km, bv kn, bv ko, bv kp, bv kq, bv kA, bv kB, bv kC, bv kD, bv kE, bv kF, bv kG, bv kI, bv kJ, bv kK, bv kL, bv kM, bv kN, bv kO, bv kP, bv kQ, sv tr, iv st, iv en, iv nc, ptr xb, iv u]) :: (le4 ++ (le3 ++ (RH ++ (BH ++ (le2 ++ (le1 ++ r))))))) prm_ ?_
 refine AU0 ?_
 refine JLs (e_call rfl rfl (Se.Add64_ok (o := 6) (x := (iss : Int)) 0 rfl rfl) ?_)
 rintro v l' ⟨rfl, rfl⟩
 rw [hiss']
 refine JL.cast (l' := (kb, isC 177 [sv R, t1, t2, t3, ptr rb, iv ((n + 2 : Nat) : Int), iv ((iss + 1 : Nat) : Int)]) :: (b4, isC 203 [.string ByteArray.empty, .string ByteArray.empty, .string ByteArray.empty, .string ByteArray.empty, .int .i64 0, .slice none 0 0, .slice none 0 0]) :: (b3, isC 300 [sv to.1, sv to.2, sv cl.1, sv cl.2, bv ka, bv kbb, bv kc, bv kd, bv ke, bv kf, bv kg, bv ki, bv kj, bv kk, bv kl, bv km, bv kn, bv ko, bv kp, bv kq, bv kA, bv kB, bv kC, bv kD, bv kE, bv kF, bv kG, bv kI, bv kJ, bv kK, bv kL, bv kM, bv kN, bv kO, bv kP, bv kQ, sv tr, iv st, iv en, iv nc, ptr xb, iv u]) :: (le4 ++ (le3 ++ (RH ++ (BH ++ (le2 ++ (le1 ++ r))))))) rfl ?_
 refine AU3 ?_
 refine JLp (y_build (cells := #[sv to.1, sv to.2, iv it.kv, (.slice A3 (Se.sealB (K it.k) 2 (BitVec.ofNat 64 (n + 1)) ((Pa.mk cl [ka, kbb, kc, kd, ke, kf, kg, ki, kj, kk, kl, km, kn, ko, kp, kq, kA, kB, kC, kD, kE, kF, kG, kI, kJ, kK, kL, kM, kN, kO, kP, kQ] tr st en)).byts).length c3)]) (by kernel_rfl)) ?_
 refine AU3 ?_
 refine JLp (y_build (cells := #[sv cl.1, sv cl.2, sv to.1, sv to.2, iv it.kv, (.slice A3 (Se.sealB (K it.k) 2 (BitVec.ofNat 64 (n + 1)) ((Pa.mk cl [ka, kbb, kc, kd, ke, kf, kg, ki, kj, kk, kl, km, kn, ko, kp, kq, kA, kB, kC, kD, kE, kF, kG, kI, kJ, kK, kL, kM, kN, kO, kP, kQ] tr st en)).byts).length c3), (.slice A4 (Se.sealB kyy u (BitVec.ofNat 64 (n + 2)) ((RP.mk [ka, kbb, kc, kd, ke, kf, kg, ki, kj, kk, kl, km, kn, ko, kp, kq, kA, kB, kC, kD, kE, kF, kG, kI, kJ, kK, kL, kM, kN, kO, kP, kQ] to st en nc)).byts).length c4)]) (by kernel_rfl)) ?_
 refine AU3 ?_
 refine JLs (e_store 1 rfl rfl rfl (vs := [sv cl.1, sv cl.2, sv to.1, sv to.2, iv it.kv, (.slice A3 (Se.sealB (K it.k) 2 (BitVec.ofNat 64 (n + 1)) ((Pa.mk cl [ka, kbb, kc, kd, ke, kf, kg, ki, kj, kk, kl, km, kn, ko, kp, kq, kA, kB, kC, kD, kE, kF, kG, kI, kJ, kK, kL, kM, kN, kO, kP, kQ] tr st en)).byts).length c3), (.slice A4 (Se.sealB kyy u (BitVec.ofNat 64 (n + 2)) ((RP.mk [ka, kbb, kc, kd, ke, kf, kg, ki, kj, kk, kl, km, kn, ko, kp, kq, kA, kB, kC, kD, kE, kF, kG, kI, kJ, kK, kL, kM, kN, kO, kP, kQ] to st en nc)).byts).length c4)]) rfl rfl rfl lE_ ?_)
 refine JL.cast (l' := (kb, isC 177 [sv R, t1, t2, t3, ptr rb, iv ((n + 2 : Nat) : Int), iv ((iss + 1 : Nat) : Int)]) :: (b4, isC 203 [sv cl.1, sv cl.2, sv to.1, sv to.2, iv it.kv, (.slice A3 (Se.sealB (K it.k) 2 (BitVec.ofNat 64 (n + 1)) ((Pa.mk cl [ka, kbb, kc, kd, ke, kf, kg, ki, kj, kk, kl, km, kn, ko, kp, kq, kA, kB, kC, kD, kE, kF, kG, kI, kJ, kK, kL, kM, kN, kO, kP, kQ] tr st en)).byts).length c3), (.slice A4 (Se.sealB kyy u (BitVec.ofNat 64 (n + 2)) ((RP.mk [ka, kbb, kc, kd, ke, kf, kg, ki, kj, kk, kl, km, kn, ko, kp, kq, kA, kB, kC, kD, kE, kF, kG, kI, kJ, kK, kL, kM, kN, kO, kP, kQ] to st en nc)).byts).length c4)]) :: (b3, isC 300 [sv to.1, sv to.2, sv cl.1, sv cl.2, bv ka, bv kbb, bv kc, bv kd, bv ke, bv kf, bv kg, bv ki, bv kj, bv kk, bv kl, bv km, bv kn, bv ko, bv kp, bv kq, bv kA, bv kB, bv kC, bv kD, bv kE, bv kF, bv kG, bv kI, bv kJ, bv kK, bv kL, bv kM, bv kN, bv kO, bv kP, bv kQ, sv tr, iv st, iv en, iv nc, ptr xb, iv u]) :: (le4 ++ (le3 ++ (RH ++ (BH ++ (le2 ++ (le1 ++ r))))))) rfl ?_
 refine JL.perm (l' := (b4, isC 203 [sv cl.1, sv cl.2, sv to.1, sv to.2, iv it.kv, (.slice A3 (Se.sealB (K it.k) 2 (BitVec.ofNat 64 (n + 1)) ((Pa.mk cl [ka, kbb, kc, kd, ke, kf, kg, ki, kj, kk, kl, km, kn, ko, kp, kq, kA, kB, kC, kD, kE, kF, kG, kI, kJ, kK, kL, kM, kN, kO, kP, kQ] tr st en)).byts).length c3), (.slice A4 (Se.sealB kyy u (BitVec.ofNat 64 (n + 2)) ((RP.mk [ka, kbb, kc, kd, ke, kf, kg, ki, kj, kk, kl, km, kn, ko, kp, kq, kA, kB, kC, kD, kE, kF, kG, kI, kJ, kK, kL, kM, kN, kO, kP, kQ] to st en nc)).byts).length c4)]) :: (b3, isC 300 [sv to.1, sv to.2, sv cl.1, sv cl.2, bv ka, bv kbb, bv kc, bv kd, bv ke, bv kf, bv kg, bv ki, bv kj, bv kk, bv kl, bv km, bv kn, bv ko, bv kp, bv kq, bv kA, bv kB, bv kC, bv kD, bv kE, bv kF, bv kG, bv kI, bv kJ, bv kK, bv kL, bv kM, bv kN, bv kO, bv kP, bv kQ, sv tr, iv st, iv en, iv nc, ptr xb, iv u]) :: ((le4 ++ le3) ++ ((kb, isC 177 [sv R, t1, t2, t3, ptr rb, iv ((n + 2 : Nat) : Int), iv ((iss + 1 : Nat) : Int)]) :: (RH ++ (BH ++ (le2 ++ (le1 ++ r))))))) prm_ ?_
 refine AU0 ?_
 refine JC.ret (ret_cell2 rfl rfl 0 rfl rfl rfl (by conv => lhs; whnf) (l' := (le4 ++ le3) ++ ((kb, isC 177 [sv R, t1, t2, t3, ptr rb, iv ((n + 2 : Nat) : Int), iv ((iss + 1 : Nat) : Int)]) :: (RH ++ (BH ++ r)))) ?_ ⟨(.slice A3 (Se.sealB (K it.k) 2 (BitVec.ofNat 64 (n + 1)) ((Pa.mk cl [ka, kbb, kc, kd, ke, kf, kg, ki, kj, kk, kl, km, kn, ko, kp, kq, kA, kB, kC, kD, kE, kF, kG, kI, kJ, kK, kL, kM, kN, kO, kP, kQ] tr st en)).byts).length c3), (.slice A4 (Se.sealB kyy u (BitVec.ofNat 64 (n + 2)) ((RP.mk [ka, kbb, kc, kd, ke, kf, kg, ki, kj, kk, kl, km, kn, ko, kp, kq, kA, kB, kC, kD, kE, kF, kG, kI, kJ, kK, kL, kM, kN, kO, kP, kQ] to st en nc)).byts).length c4), le4 ++ le3, rfl, ⟨A3, c3, rfl, hs3.mono fun e he => by simp [he], hc3, hn3⟩, ⟨A4, c4, rfl, hs4.mono fun e he => by simp [he], hc4, hn4⟩, rfl⟩)
 refine List.Sublist.cons _ (List.Sublist.cons _ (List.Sublist.append_left (List.Sublist.cons_cons _ (List.Sublist.append_left (List.Sublist.append_left ((List.sublist_append_right le1 r).trans (List.sublist_append_right le2 _)) _) _)) _))
end Go.Proofs.YtbalcgjphkdecaaGreatDoor.To
namespace Go.Proofs.YtbalcgjphkdecaaGreatDoor.To
open Go.RowKit Go.Lg
set_option maxRecDepth 100000
theorem neqSS_same {a b : S} (h : a = b) : (!((ba a).toList == (ba b).toList)) = false := by subst h; rw [De.ba_self]; rfl
theorem neqSS_diff {a b : S} (h : a ≠ b) : (!((ba a).toList == (ba b).toList)) = true := by rw [eqSS, decide_eq_false h]; rfl
theorem eqSS_same {a b : S} (h : a = b) : ((ba a).toList == (ba b).toList) = true := by subst h; exact De.ba_self _
theorem eqSS_diff {a b : S} (h : a ≠ b) : ((ba a).toList == (ba b).toList) = false := by rw [eqSS, decide_eq_false h]
attribute [local irreducible] JC JL JD RN RT Eff Yld YldIf Tr partsL okR splitL wordB joinD fit betweenS laidS viaS De.wrapB De.num De.clampI K Se.sealB Pa.byts Au.byts RP.byts Se.inc
set_option maxHeartbeats 4000000 in
theorem shown_ok {kb rb n iss : Nat} {R : S} {t1 t2 t3 : Value} {bl : List RB} {RH r : List Ent} {W : World} (hB : RingB rb bl RH) (hm : bl.length ≤ 1000) (hR : R.length ≤ 1000) {sv_ : P2} {kv k : Nat} {it : RI} (hl : lastAt (isPk sv_ kv) (bl.map RB.it) 0 = some (k, it)) (hsv : sv_.2 = grantS ++ R)
  {q : Nat} (hq : q ≤ 1000002) {p : Pa} (hp : p.good) {w : Value} (hw : BV W r w (Se.sealB (K it.k) 2 (BitVec.ofNat 64 q) p.byts)) {now : Int} (hnow : tm now) (h1 : now ≤ p.en) (h2 : p.st ≤ now + 5) :
  Tr Pg 164 #[ptr kb, .agg #[sv sv_.1, sv sv_.2, iv kv, w], iv now] W ((kb, isC 177 [sv R, t1, t2, t3, ptr rb, iv n, iv iss]) :: (RH ++ r)) fun v l' => v = .tuple #[.agg p.cells.toArray, iv 0] ∧ l' = (kb, isC 177 [sv R, t1, t2, t3, ptr rb, iv n, iv iss]) :: (RH ++ r) := by
 have hpb := Pa.byts_le hp
 obtain ⟨n1, n2⟩ := hnow
 obtain ⟨q1, q2⟩ := hp.2.2.2.1
 obtain ⟨q3, q4⟩ := hp.2.2.2.2
 obtain ⟨ka, kbb, kc, kd, ke, kf, kg, ki, kj, kk, kl, km, kn, ko, kp, kq, kA, kB, kC, kD, kE, kF, kG, kI, kJ, kK, kL, kM, kN, kO, kP, kQ, hk⟩ := len32 hp.2.1
 have hpc : p.cells = [sv p.cl.1, sv p.cl.2, bv ka, bv kbb, bv kc, bv kd, bv ke, bv kf, bv kg, bv ki, bv kj, bv kk, bv kl, bv km, bv kn, bv ko, bv kp, bv kq, bv kA, bv kB, bv kC, bv kD, bv kE, bv kF, bv kG, bv kI, bv kJ, bv kK, bv kL, bv kM, bv kN, bv kO, bv kP, bv kQ, sv p.tr, iv p.st, iv p.en] := by unfold Pa.cells; rw [hk]; rfl
 obtain ⟨Aw, cw, rfl, hsw, hcw, hnw⟩ := hw
 refine Tr.of_code (args := [_, _, _]) Tryz.func164 rfl Tryz.ntmps164 lE_ ?_
 refine AU0 ?_
 refine JLs (e_box (cs := [sv sv_.1, sv sv_.2, iv kv, _]) rfl rfl fun b4 => ?_)
 refine JLs (e_alloc fun b6 => ?_)
 refine AU0 ?_
 refine JC.drawn 9 rfl mixed ?_
 refine JDp 0 rfl (y_fieldAddr rfl) ?_
 refine JDp 1 rfl (y_fieldAddr rfl) ?_
 refine JDr 2 1 rfl rfl (r_load1 rfl rfl) ?_
 refine JDp 3 rfl y_mv ?_
 refine JDp 4 rfl (y_nilCheck rfl) ?_
 refine JDp 5 rfl (y_fieldAddr rfl) ?_
 refine JDr 6 2 rfl rfl (r_load1 rfl rfl) ?_
 refine JDe 7 rfl (e_call rfl rfl (Krbtgt_ok (r := R) hR) ?_)
 rintro v l' ⟨rfl, rfl⟩
 refine ⟨tok_, ?_⟩
 refine JDp 8 rfl (y_neqS rfl rfl (r := false) (neqSS_same hsv)) ?_
 refine JDd ?_
 refine AU0 ?_
 refine JC.drawn 14 rfl mixed ?_
 refine JDp 0 rfl y_mv ?_
 refine JDp 1 rfl (y_nilCheck rfl) ?_
 refine JDp 2 rfl (y_fieldAddr rfl) ?_
 refine JDr 3 2 rfl rfl (r_load1 rfl rfl) ?_
 refine JDp 4 rfl (y_fieldAddr rfl) ?_
 refine JDr 5 1 rfl rfl (r_loadA rfl lE_ rfl) ?_
 refine JDp 6 rfl (y_fieldAddr rfl) ?_
 refine JDr 7 1 rfl rfl (r_load1 rfl rfl) ?_
 refine JDe 8 rfl (e_call rfl rfl (Tr.perm (l' := RH ++ (_ :: _ :: (kb, isC 177 [sv R, t1, t2, t3, ptr rb, iv n, iv iss]) :: r)) (perm_mid [_, _, _] RH r) (Box_ok hB hm hl)) ?_)
 rintro v l' ⟨rfl, x, hx, hxi, rfl⟩
 refine ⟨tok_, ?_⟩
 refine JDp 9 rfl y_mv ?_
 refine JDp 10 rfl (y_extract rfl rfl) ?_
 refine JDp 11 rfl (y_extract rfl rfl) ?_
 refine JDp 12 rfl y_as ?_
 refine JDp 13 rfl y_as ?_
 refine JDd ?_
 refine AU0 ?_
 refine JL.perm (l' := _ :: _ :: (kb, isC 177 [sv R, t1, t2, t3, ptr rb, iv n, iv iss]) :: (RH ++ r)) (perm_mid [_, _, _] RH r).symm ?_
 refine AU3 ?_
 refine JLs (e_call rfl rfl (Tr.perm (l' := RH ++ (_ :: _ :: (kb, isC 177 [sv R, t1, t2, t3, ptr rb, iv n, iv iss]) :: r)) (perm_mid [_, _, _] RH r) (ROpen_ok hB hx (u := 2) (n := q) (by decide) hq (ps := p.byts) (by omega) (by rw [hxi]; exact ⟨Aw, cw, rfl, hsw.mono fun e he => by simp [he], hcw, hnw⟩))) ?_)
 rintro v l' ⟨v1, le1, rfl, ho1, rfl⟩
 refine AU0 ?_
 refine JLs (e_call rfl rfl (DecodePart_ok hp (BV.mono (BV.own (W := W) ho1) fun e he => by simp [he])) ?_)
 rintro v l' ⟨rfl, rfl⟩
 rw [hpc]
 refine JL.sub (l' := RH ++ (_ :: _ :: (kb, isC 177 [sv R, t1, t2, t3, ptr rb, iv n, iv iss]) :: r)) (List.sublist_append_right le1 _) ?_
 refine JL.perm (l' := _ :: _ :: (kb, isC 177 [sv R, t1, t2, t3, ptr rb, iv n, iv iss]) :: (RH ++ r)) (perm_mid [_, _, _] RH r).symm ?_
 refine AU0 ?_
 refine JLs (e_alloc fun b11 => ?_)
 refine JLs (e_store 0 rfl rfl rfl (vs := [sv p.cl.1, sv p.cl.2, bv ka, bv kbb, bv kc, bv kd, bv ke, bv kf, bv kg, bv ki, bv kj, bv kk, bv kl, bv km, bv kn, bv ko, bv kp, bv kq, bv kA, bv kB, bv kC, bv kD, bv kE, bv kF, bv kG, bv kI, bv kJ, bv kK, bv kL, bv kM, bv kN, bv kO, bv kP, bv kQ, sv p.tr, iv p.st, iv p.en]) rfl rfl rfl lE_ ?_)
 refine JL.cast (l' := (b11, isC 269 [sv p.cl.1, sv p.cl.2, bv ka, bv kbb, bv kc, bv kd, bv ke, bv kf, bv kg, bv ki, bv kj, bv kk, bv kl, bv km, bv kn, bv ko, bv kp, bv kq, bv kA, bv kB, bv kC, bv kD, bv kE, bv kF, bv kG, bv kI, bv kJ, bv kK, bv kL, bv kM, bv kN, bv kO, bv kP, bv kQ, sv p.tr, iv p.st, iv p.en]) :: _ :: _ :: (kb, isC 177 [sv R, t1, t2, t3, ptr rb, iv n, iv iss]) :: (RH ++ r)) rfl ?_
 refine AU1 ?_
 refine JLs (e_store 1 rfl rfl rfl (vs := [sv p.cl.1, sv p.cl.2, bv ka, bv kbb, bv kc, bv kd, bv ke, bv kf, bv kg, bv ki, bv kj, bv kk, bv kl, bv km, bv kn, bv ko, bv kp, bv kq, bv kA, bv kB, bv kC, bv kD, bv kE, bv kF, bv kG, bv kI, bv kJ, bv kK, bv kL, bv kM, bv kN, bv kO, bv kP, bv kQ, sv p.tr, iv p.st, iv p.en]) rfl rfl rfl lE_ ?_)
 refine JL.cast (l' := (b11, isC 269 [sv p.cl.1, sv p.cl.2, bv ka, bv kbb, bv kc, bv kd, bv ke, bv kf, bv kg, bv ki, bv kj, bv kk, bv kl, bv km, bv kn, bv ko, bv kp, bv kq, bv kA, bv kB, bv kC, bv kD, bv kE, bv kF, bv kG, bv kI, bv kJ, bv kK, bv kL, bv kM, bv kN, bv kO, bv kP, bv kQ, sv p.tr, iv p.st, iv p.en]) :: (b6, isC 269 [sv p.cl.1, sv p.cl.2, bv ka, bv kbb, bv kc, bv kd, bv ke, bv kf, bv kg, bv ki, bv kj, bv kk, bv kl, bv km, bv kn, bv ko, bv kp, bv kq, bv kA, bv kB, bv kC, bv kD, bv kE, bv kF, bv kG, bv kI, bv kJ, bv kK, bv kL, bv kM, bv kN, bv kO, bv kP, bv kQ, sv p.tr, iv p.st, iv p.en]) :: _ :: (kb, isC 177 [sv R, t1, t2, t3, ptr rb, iv n, iv iss]) :: (RH ++ r)) rfl ?_
 refine AU0 ?_
 exact JC.ret (ret_cell2 rfl rfl 1 rfl rfl rfl (by conv => lhs; whnf) (List.sublist_append_right [_, _, _] _) ⟨rfl, rfl⟩)
set_option maxHeartbeats 4000000 in
theorem proves_ok {xb kb : Nat} {q : Nat} (hq : q ≤ 1000002) {a : Au} (ha : a.good) {p : Pa} (hp : p.good) (hcl : a.cl = p.cl) {v : Value} {r : List Ent} {W : World} (hv : BV W r v (Se.sealB p.ses 7 (BitVec.ofNat 64 q) a.byts)) {now : Int} (hnow : tm now) (h1 : a.tm_ ≤ now + 5) (h2 : now - 5 ≤ a.tm_) :
  Tr Pg 165 #[ptr xb, .agg p.cells.toArray, v, iv now] W ((xb, isBx kb p.ses) :: (kb, isKy p.ses) :: r) fun v l' => v = iv 0 ∧ l' = (xb, isBx kb p.ses) :: (kb, isKy p.ses) :: r := by
 have hab := Au.byts_le ha
 obtain ⟨n1, n2⟩ := hnow
 obtain ⟨q1, q2⟩ := ha.2.1
 obtain ⟨ka, kbb, kc, kd, ke, kf, kg, ki, kj, kk, kl, km, kn, ko, kp, kq, kA, kB, kC, kD, kE, kF, kG, kI, kJ, kK, kL, kM, kN, kO, kP, kQ, hk⟩ := len32 hp.2.1
 have hpc : p.cells = [sv p.cl.1, sv p.cl.2, bv ka, bv kbb, bv kc, bv kd, bv ke, bv kf, bv kg, bv ki, bv kj, bv kk, bv kl, bv km, bv kn, bv ko, bv kp, bv kq, bv kA, bv kB, bv kC, bv kD, bv kE, bv kF, bv kG, bv kI, bv kJ, bv kK, bv kL, bv kM, bv kN, bv kO, bv kP, bv kQ, sv p.tr, iv p.st, iv p.en] := by unfold Pa.cells; rw [hk]; rfl
 rw [hpc]
 refine Tr.of_code (args := [_, _, _, _]) Tryz.func165 rfl Tryz.ntmps165 lE_ ?_
 refine AU0 ?_
 refine JLs (e_box (cs := [sv p.cl.1, sv p.cl.2, bv ka, bv kbb, bv kc, bv kd, bv ke, bv kf, bv kg, bv ki, bv kj, bv kk, bv kl, bv km, bv kn, bv ko, bv kp, bv kq, bv kA, bv kB, bv kC, bv kD, bv kE, bv kF, bv kG, bv kI, bv kJ, bv kK, bv kL, bv kM, bv kN, bv kO, bv kP, bv kQ, sv p.tr, iv p.st, iv p.en]) rfl rfl fun b5 => ?_)
 refine AU0 ?_
 refine JLs (e_call rfl rfl (Tr.perm (l' := (xb, isBx kb p.ses) :: (kb, isKy p.ses) :: ((b5, isC 269 [sv p.cl.1, sv p.cl.2, bv ka, bv kbb, bv kc, bv kd, bv ke, bv kf, bv kg, bv ki, bv kj, bv kk, bv kl, bv km, bv kn, bv ko, bv kp, bv kq, bv kA, bv kB, bv kC, bv kD, bv kE, bv kF, bv kG, bv kI, bv kJ, bv kK, bv kL, bv kM, bv kN, bv kO, bv kP, bv kQ, sv p.tr, iv p.st, iv p.en]) :: r)) prm_ (BOpen_ok hp.2.1 (u := 7) (n := q) (by decide) hq (ps := a.byts) (by omega) (hv.mono fun e he => by simp [he]))) ?_)
 rintro v l' ⟨v1, le1, rfl, ho1, rfl⟩
 refine AU0 ?_
 refine JLs (e_call rfl rfl (DecodeAuthn_ok ha (BV.mono (BV.own (W := W) ho1) fun e he => by simp [he])) ?_)
 rintro v l' ⟨rfl, rfl⟩
 refine JL.sub (l' := (xb, isBx kb p.ses) :: (kb, isKy p.ses) :: ((b5, isC 269 [sv p.cl.1, sv p.cl.2, bv ka, bv kbb, bv kc, bv kd, bv ke, bv kf, bv kg, bv ki, bv kj, bv kk, bv kl, bv km, bv kn, bv ko, bv kp, bv kq, bv kA, bv kB, bv kC, bv kD, bv kE, bv kF, bv kG, bv kI, bv kJ, bv kK, bv kL, bv kM, bv kN, bv kO, bv kP, bv kQ, sv p.tr, iv p.st, iv p.en]) :: r)) (List.sublist_append_right le1 _) ?_
 refine AU0 ?_
 refine JLs (e_alloc fun b11 => ?_)
 refine JLs (e_store 0 rfl rfl rfl (vs := a.cells) rfl rfl rfl lE_ ?_)
 refine JL.perm (l' := (b11, isC 250 a.cells) :: (b5, isC 269 [sv p.cl.1, sv p.cl.2, bv ka, bv kbb, bv kc, bv kd, bv ke, bv kf, bv kg, bv ki, bv kj, bv kk, bv kl, bv km, bv kn, bv ko, bv kp, bv kq, bv kA, bv kB, bv kC, bv kD, bv kE, bv kF, bv kG, bv kI, bv kJ, bv kK, bv kL, bv kM, bv kN, bv kO, bv kP, bv kQ, sv p.tr, iv p.st, iv p.en]) :: ((xb, isBx kb p.ses) :: (kb, isKy p.ses) :: r)) (by refine List.Perm.trans (List.Perm.refl ((b11, isC 250 a.cells) :: (xb, isBx kb p.ses) :: (kb, isKy p.ses) :: ((b5, isC 269 [sv p.cl.1, sv p.cl.2, bv ka, bv kbb, bv kc, bv kd, bv ke, bv kf, bv kg, bv ki, bv kj, bv kk, bv kl, bv km, bv kn, bv ko, bv kp, bv kq, bv kA, bv kB, bv kC, bv kD, bv kE, bv kF, bv kG, bv kI, bv kJ, bv kK, bv kL, bv kM, bv kN, bv kO, bv kP, bv kQ, sv p.tr, iv p.st, iv p.en]) :: r))) ?_; exact prm_) ?_
 repeat (first | refine JLp (y_neqAns (r := true) rfl rfl (by rw [← decide_eq_true hcl]; exact eq_princ a.cl p.cl) (by decide)) ?_ | refine AS2 ?_)
 exact JC.sub (List.sublist_append_right [_, _] _) (JC.ret (RT.one rfl rfl rfl ⟨rfl, rfl⟩))
theorem passed_same {kb rb n iss : Nat} {R : S} {t1 t2 t3 : Value} {r : List Ent} {W : World} {p : Pa} (hp : p.good) {fr to : S} (h : fr = R ∨ fr = p.cl.1) : Tr Pg 167 #[ptr kb, .agg p.cells.toArray, sv fr, sv to] W ((kb, isC 177 [sv R, t1, t2, t3, ptr rb, iv n, iv iss]) :: r) fun v l' => v = .tuple #[sv p.tr, iv 0] ∧ l' = (kb, isC 177 [sv R, t1, t2, t3, ptr rb, iv n, iv iss]) :: r := by
 obtain ⟨ka, kbb, kc, kd, ke, kf, kg, ki, kj, kk, kl, km, kn, ko, kp, kq, kA, kB, kC, kD, kE, kF, kG, kI, kJ, kK, kL, kM, kN, kO, kP, kQ, hk⟩ := len32 hp.2.1
 have hpc : p.cells = [sv p.cl.1, sv p.cl.2, bv ka, bv kbb, bv kc, bv kd, bv ke, bv kf, bv kg, bv ki, bv kj, bv kk, bv kl, bv km, bv kn, bv ko, bv kp, bv kq, bv kA, bv kB, bv kC, bv kD, bv kE, bv kF, bv kG, bv kI, bv kJ, bv kK, bv kL, bv kM, bv kN, bv kO, bv kP, bv kQ, sv p.tr, iv p.st, iv p.en] := by unfold Pa.cells; rw [hk]; rfl
 rw [hpc]
 refine Tr.of_code (args := [_, _, _, _]) Tryz.func167 rfl Tryz.ntmps167 lE_ ?_
 refine AU0 ?_
 refine JLs (e_box (cs := [sv p.cl.1, sv p.cl.2, bv ka, bv kbb, bv kc, bv kd, bv ke, bv kf, bv kg, bv ki, bv kj, bv kk, bv kl, bv km, bv kn, bv ko, bv kp, bv kq, bv kA, bv kB, bv kC, bv kD, bv kE, bv kF, bv kG, bv kI, bv kJ, bv kK, bv kL, bv kM, bv kN, bv kO, bv kP, bv kQ, sv p.tr, iv p.st, iv p.en]) rfl rfl fun b5 => ?_)
 by_cases h1 : fr = R
 ·repeat (first | refine JLp (y_eqlS rfl rfl (r := true) (eqSS_same h1)) ?_ | refine AS2 ?_)
  exact JC.sub (List.sublist_cons_self _ _) (JC.ret (RT.two rfl rfl rfl rfl ⟨rfl, rfl⟩))
 ·have h2 : fr = p.cl.1 := h.resolve_left h1
  repeat (first | refine JLp (y_eqlS rfl rfl (r := false) (eqSS_diff h1)) ?_ | refine JLp (y_eqlS rfl rfl (r := true) (eqSS_same h2)) ?_ | refine AS2 ?_)
  exact JC.sub (List.sublist_cons_self _ _) (JC.ret (RT.two rfl rfl rfl rfl ⟨rfl, rfl⟩))
theorem passed_more {kb rb n iss : Nat} {R : S} {t1 t2 t3 : Value} {r : List Ent} {W : World} {p : Pa} (hp : p.good) {fr to : S} (h1 : fr ≠ R) (h2 : fr ≠ p.cl.1) {ls : List S} (ht : told p.tr ls = true) (hc : fitR p.cl.1 = true) (hto : fitR to = true) (hfr : fitR fr = true) (h3 : fr ≠ to) (h4 : fr ∉ ls) (hpl : plain (ls ++ [fr]) = true) :
  Tr Pg 167 #[ptr kb, .agg p.cells.toArray, sv fr, sv to] W ((kb, isC 177 [sv R, t1, t2, t3, ptr rb, iv n, iv iss]) :: r) fun v l' => v = .tuple #[sv (cat (ls ++ [fr])), iv 0] ∧ l' = (kb, isC 177 [sv R, t1, t2, t3, ptr rb, iv n, iv iss]) :: r := by
 simp only [fitR, Bool.and_eq_true] at hc hto hfr
 obtain ⟨ka, kbb, kc, kd, ke, kf, kg, ki, kj, kk, kl, km, kn, ko, kp, kq, kA, kB, kC, kD, kE, kF, kG, kI, kJ, kK, kL, kM, kN, kO, kP, kQ, hk⟩ := len32 hp.2.1
 have hpc : p.cells = [sv p.cl.1, sv p.cl.2, bv ka, bv kbb, bv kc, bv kd, bv ke, bv kf, bv kg, bv ki, bv kj, bv kk, bv kl, bv km, bv kn, bv ko, bv kp, bv kq, bv kA, bv kB, bv kC, bv kD, bv kE, bv kF, bv kG, bv kI, bv kJ, bv kK, bv kL, bv kM, bv kN, bv kO, bv kP, bv kQ, sv p.tr, iv p.st, iv p.en] := by unfold Pa.cells; rw [hk]; rfl
 rw [hpc]
 refine Tr.of_code (args := [_, _, _, _]) Tryz.func167 rfl Tryz.ntmps167 lE_ ?_
 refine AU0 ?_
 refine JLs (e_box (cs := [sv p.cl.1, sv p.cl.2, bv ka, bv kbb, bv kc, bv kd, bv ke, bv kf, bv kg, bv ki, bv kj, bv kk, bv kl, bv km, bv kn, bv ko, bv kp, bv kq, bv kA, bv kB, bv kC, bv kD, bv kE, bv kF, bv kG, bv kI, bv kJ, bv kK, bv kL, bv kM, bv kN, bv kO, bv kP, bv kQ, sv p.tr, iv p.st, iv p.en]) rfl rfl fun b5 => ?_)
 repeat (first | refine JLp (y_eqlS rfl rfl (r := false) (eqSS_diff h1)) ?_ | refine JLp (y_eqlS rfl rfl (r := false) (eqSS_diff h2)) ?_ | refine AS2 ?_)
 refine JLs (e_call rfl rfl (Insert_ok ht hc.1 hc.2 hto.1 hto.2 hfr.1 hfr.2 h2 h3 h4 hpl) ?_)
 rintro v l' ⟨rfl, rfl⟩
 refine AU0 ?_
 exact JC.sub (List.sublist_cons_self _ _) (JC.ret (RT.two rfl rfl rfl rfl ⟨rfl, rfl⟩))
end Go.Proofs.YtbalcgjphkdecaaGreatDoor.To
namespace Go.Proofs.YtbalcgjphkdecaaGreatDoor.To
open Go.RowKit Go.Lg
set_option maxRecDepth 100000
theorem min_int (a b : Int) : (if b < a then b else a) = min a b := by
 rw [Int.min_def]
 split <;> split <;> omega
attribute [local irreducible] JC JL JD RN RT Eff Yld YldIf Tr partsL okR splitL wordB joinD fit betweenS laidS viaS De.wrapB De.num De.clampI K Se.sealB Pa.byts Au.byts RP.byts Mg.byts Se.inc nextS
theorem Issued_ok {kb rb n iss : Nat} {R : S} {t1 t2 t3 : Value} {r : List Ent} {W : World} : Tr Pg 93 #[ptr kb] W ((kb, isC 177 [sv R, t1, t2, t3, ptr rb, iv n, iv iss]) :: r) fun v l' => v = iv iss ∧ l' = (kb, isC 177 [sv R, t1, t2, t3, ptr rb, iv n, iv iss]) :: r := by
 refine Tr.of_code (args := [_]) Tryz.func93 rfl Tryz.ntmps93 lE_ ?_
 refine AU0 ?_
 refine JLs (e_call rfl rfl (Se.Load64_ok (o := 6) (x := (iss : Int)) 0 rfl rfl) ?_)
 rintro v l' ⟨rfl, rfl⟩
 refine AU0 ?_
 exact JC.ret (RT.one rfl rfl rfl ⟨rfl, rfl⟩)
set_option maxHeartbeats 2000000 in
theorem target_same {kb rb n iss : Nat} {R : S} {t1 t2 t3 : Value} {bl : List RB} {RH r : List Ent} {W : World} (hB : RingB rb bl RH) (hm : bl.length ≤ 1000) {s : P2} (hs : s.1 = R) {k : Nat} {it : RI} (hl : lastAt (isP s) (bl.map RB.it) 0 = some (k, it)) :
  Tr Pg 166 #[ptr kb, pv s] W ((kb, isC 177 [sv R, t1, t2, t3, ptr rb, iv n, iv iss]) :: (RH ++ r)) fun v l' => v = .tuple #[pv s, iv 0] ∧ l' = (kb, isC 177 [sv R, t1, t2, t3, ptr rb, iv n, iv iss]) :: (RH ++ r) := by
 refine Tr.of_code (args := [_, _]) Tryz.func166 rfl Tryz.ntmps166 lE_ ?_
 refine AU0 ?_
 refine JLs (e_box (cs := enc2 s) rfl rfl fun b3 => ?_)
 refine JLs (e_alloc fun b4 => ?_)
 refine AU2 ?_
 refine JLs (e_alloc fun b6 => ?_)
 refine JLs (e_store 0 rfl rfl rfl (vs := enc2 s) rfl rfl rfl lE_ ?_)
 refine JL.cast (l' := (b6, isC 48 (enc2 s)) :: _ :: _ :: (kb, isC 177 [sv R, t1, t2, t3, ptr rb, iv n, iv iss]) :: (RH ++ r)) rfl ?_
 refine AU0 ?_
 refine JC.drawn 7 rfl mixed ?_
 refine JDp 0 rfl (y_fieldAddr rfl) ?_
 refine JDr 1 2 rfl rfl (r_load1 rfl rfl) ?_
 refine JDp 2 rfl y_mv ?_
 refine JDp 3 rfl (y_nilCheck rfl) ?_
 refine JDp 4 rfl (y_fieldAddr rfl) ?_
 refine JDr 5 3 rfl rfl (r_load1 rfl rfl) ?_
 refine JDp 6 rfl (y_neqS rfl rfl (r := false) (neqSS_same hs)) ?_
 refine JDd ?_
 refine AU0 ?_
 refine JC.drawn 13 rfl mixed ?_
 refine JDp 0 rfl y_mv ?_
 refine JDp 1 rfl (y_nilCheck rfl) ?_
 refine JDp 2 rfl (y_fieldAddr rfl) ?_
 refine JDr 3 3 rfl rfl (r_load1 rfl rfl) ?_
 refine JDr 4 0 rfl rfl (r_loadA rfl lE_ rfl) ?_
 refine JDe 5 rfl (e_call rfl rfl (Tr.perm (l' := RH ++ (_ :: _ :: _ :: _ :: r)) (perm_mid [_, _, _, _] RH r) (Last_ok (p := s) hB hm hl)) ?_)
 rintro v l' ⟨rfl, x, hx, hxi, rfl⟩
 refine ⟨tok_, ?_⟩
 refine JDp 6 rfl y_mv ?_
 refine JDp 7 rfl (y_extract rfl rfl) ?_
 refine JDp 8 rfl (y_extract rfl rfl) ?_
 refine JDp 9 rfl (y_extract rfl rfl) ?_
 refine JDp 10 rfl y_as ?_
 refine JDp 11 rfl y_as ?_
 refine JDp 12 rfl y_as ?_
 refine JDd ?_
 refine RN.perm (l' := _ :: _ :: _ :: _ :: (RH ++ r)) (perm_mid [_, _, _, _] RH r).symm ?_
 refine AU2 ?_
 refine JLs (e_store 1 rfl rfl rfl (vs := enc2 (s)) rfl rfl rfl lE_ ?_)
 refine JL.cast (l' := _ :: (b4, isC 48 (enc2 (s))) :: _ :: _ :: (RH ++ r)) rfl ?_
 refine AU0 ?_
 exact JC.ret (ret_cell2 rfl rfl 1 rfl rfl rfl (by conv => lhs; whnf) (List.sublist_append_right [_, _, _] _) ⟨rfl, rfl⟩)
set_option maxHeartbeats 2000000 in
theorem target_next {kb rb n iss : Nat} {R : S} {t1 t2 t3 : Value} {bl : List RB} {RH r : List Ent} {W : World} (hB : RingB rb bl RH) (hm : bl.length ≤ 1000) {T : Topo} (hT : TopoV W r [t1, t2, t3] T) {s : P2} (hs : s.1 ≠ R) (hin : s.1 ∈ T.rs) (hvia : viaOk T R s.1 = true) {z : S} (hz : nextS T R s.1 = some z) (hz1 : z.length ≤ 1000)
  {k : Nat} {it : RI} (hl : lastAt (isP (R, grantS ++ z)) (bl.map RB.it) 0 = some (k, it)) :
  Tr Pg 166 #[ptr kb, pv s] W ((kb, isC 177 [sv R, t1, t2, t3, ptr rb, iv n, iv iss]) :: (RH ++ r)) fun v l' => v = .tuple #[pv (R, grantS ++ z), iv 0] ∧ l' = (kb, isC 177 [sv R, t1, t2, t3, ptr rb, iv n, iv iss]) :: (RH ++ r) := by
 obtain ⟨A1, c1, A2, c2, A3, c3, xs, hvs, -, hr1, -⟩ := id hT
 obtain rfl : t1 = .slice A1 T.rs.length c1 := by injection hvs
 simp only [viaOk, Bool.and_eq_true, decide_eq_true_eq, List.all_eq_true] at hvia
 obtain ⟨⟨⟨⟨⟨⟨⟨⟨⟨v1, v2⟩, v3⟩, v4⟩, v5⟩, v6⟩, v7⟩, v8⟩, v9⟩, v10⟩ := hvia
 refine Tr.of_code (args := [_, _]) Tryz.func166 rfl Tryz.ntmps166 lE_ ?_
 refine AU0 ?_
 refine JLs (e_box (cs := enc2 s) rfl rfl fun b3 => ?_)
 refine JLs (e_alloc fun b4 => ?_)
 refine AU2 ?_
 refine JLs (e_alloc fun b6 => ?_)
 refine JLs (e_store 0 rfl rfl rfl (vs := enc2 s) rfl rfl rfl lE_ ?_)
 refine JL.cast (l' := (b6, isC 48 (enc2 s)) :: _ :: _ :: (kb, isC 177 [sv R, .slice A1 T.rs.length c1, t2, t3, ptr rb, iv n, iv iss]) :: (RH ++ r)) rfl ?_
 refine AU0 ?_
 refine JC.drawn 7 rfl mixed ?_
 refine JDp 0 rfl (y_fieldAddr rfl) ?_
 refine JDr 1 2 rfl rfl (r_load1 rfl rfl) ?_
 refine JDp 2 rfl y_mv ?_
 refine JDp 3 rfl (y_nilCheck rfl) ?_
 refine JDp 4 rfl (y_fieldAddr rfl) ?_
 refine JDr 5 3 rfl rfl (r_load1 rfl rfl) ?_
 refine JDp 6 rfl (y_neqS rfl rfl (r := true) (neqSS_diff hs)) ?_
 refine JDd ?_
 refine AU0 ?_
 refine JC.drawn 9 rfl mixed ?_
 refine JDp 0 rfl y_mv ?_
 refine JDp 1 rfl (y_nilCheck rfl) ?_
 refine JDp 2 rfl (y_fieldAddr rfl) ?_
 refine JDp 3 rfl (y_fieldAddr rfl) ?_
 refine JDr 4 3 rfl rfl (r_load1 rfl rfl) ?_
 refine JDp 5 rfl (y_fieldAddr rfl) ?_
 refine JDr 6 2 rfl rfl (r_load1 rfl rfl) ?_
 refine JDe 7 rfl (e_call rfl rfl (ContainsS_ok s.1 rfl (by omega) (hr1.1.mono fun e he => by simp [he])) ?_)
 rintro v l' ⟨rfl, rfl⟩
 rw [decide_eq_true hin]
 refine ⟨tok_, ?_⟩
 refine JDp 8 rfl (y_not rfl) ?_
 refine JDd ?_
 refine AU0 ?_
 refine JC.drawn 16 rfl mixed ?_
 refine JDp 0 rfl y_mv ?_
 refine JDp 1 rfl (y_nilCheck rfl) ?_
 refine JDp 2 rfl (y_fieldAddr rfl) ?_
 refine JDr 3 3 rfl rfl (r_loadA rfl lE_ rfl) ?_
 refine JDp 4 rfl y_mv ?_
 refine JDp 5 rfl (y_nilCheck rfl) ?_
 refine JDp 6 rfl (y_fieldAddr rfl) ?_
 refine JDr 7 3 rfl rfl (r_load1 rfl rfl) ?_
 refine JDp 8 rfl (y_fieldAddr rfl) ?_
 refine JDr 9 2 rfl rfl (r_load1 rfl rfl) ?_
 refine JDe 10 rfl (e_call rfl rfl (Next_ok (hT.mono fun e he => by simp [he]) v2 v3 v4 v5 v6 v7 v8 v9 v10 (Ne.symm hs) hz) ?_)
 rintro v l' ⟨rfl, rfl⟩
 refine ⟨tok_, ?_⟩
 refine JDp 11 rfl y_mv ?_
 refine JDp 12 rfl (y_extract rfl rfl) ?_
 refine JDp 13 rfl (y_extract rfl rfl) ?_
 refine JDp 14 rfl y_as ?_
 refine JDp 15 rfl y_as ?_
 refine JDd ?_
 refine AU0 ?_
 refine JLs (e_call rfl rfl (grants_ok (s := z) hz1 (R := R) (t1 := .slice A1 T.rs.length c1) (t2 := t2) (t3 := t3) (rb := rb) (n := n) (iss := iss) (by simp)) ?_)
 rintro v l' ⟨rfl, rfl⟩
 refine JLs (e_store 0 rfl rfl rfl (vs := enc2 (R, grantS ++ z)) rfl rfl rfl lE_ ?_)
 refine JL.cast (l' := (b6, isC 48 (enc2 (R, grantS ++ z))) :: _ :: _ :: (kb, isC 177 [sv R, .slice A1 T.rs.length c1, t2, t3, ptr rb, iv n, iv iss]) :: (RH ++ r)) rfl ?_
 refine AU0 ?_
 refine JC.drawn 13 rfl mixed ?_
 refine JDp 0 rfl y_mv ?_
 refine JDp 1 rfl (y_nilCheck rfl) ?_
 refine JDp 2 rfl (y_fieldAddr rfl) ?_
 refine JDr 3 3 rfl rfl (r_load1 rfl rfl) ?_
 refine JDr 4 0 rfl rfl (r_loadA rfl lE_ rfl) ?_
 refine JDe 5 rfl (e_call rfl rfl (Tr.perm (l' := RH ++ (_ :: _ :: _ :: _ :: r)) (perm_mid [_, _, _, _] RH r) (Last_ok (p := (R, grantS ++ z)) hB hm hl)) ?_)
 rintro v l' ⟨rfl, x, hx, hxi, rfl⟩
 refine ⟨tok_, ?_⟩
 refine JDp 6 rfl y_mv ?_
 refine JDp 7 rfl (y_extract rfl rfl) ?_
 refine JDp 8 rfl (y_extract rfl rfl) ?_
 refine JDp 9 rfl (y_extract rfl rfl) ?_
 refine JDp 10 rfl y_as ?_
 refine JDp 11 rfl y_as ?_
 refine JDp 12 rfl y_as ?_
 refine JDd ?_
 refine RN.perm (l' := _ :: _ :: _ :: _ :: (RH ++ r)) (perm_mid [_, _, _, _] RH r).symm ?_
 refine AU2 ?_
 refine JLs (e_store 1 rfl rfl rfl (vs := enc2 ((R, grantS ++ z))) rfl rfl rfl lE_ ?_)
 refine JL.cast (l' := _ :: (b4, isC 48 (enc2 ((R, grantS ++ z)))) :: _ :: _ :: (RH ++ r)) rfl ?_
 refine AU0 ?_
 exact JC.ret (ret_cell2 rfl rfl 1 rfl rfl rfl (by conv => lhs; whnf) (List.sublist_append_right [_, _, _] _) ⟨rfl, rfl⟩)
end Go.Proofs.YtbalcgjphkdecaaGreatDoor.To
namespace Go.Proofs.YtbalcgjphkdecaaGreatDoor.To
open Go.RowKit Go.Lg
set_option maxRecDepth 100000
attribute [local irreducible] JC JL JD RN RT Eff Yld YldIf Tr partsL okR splitL wordB joinD fit betweenS laidS viaS De.wrapB De.num De.clampI K Se.sealB Pa.byts Au.byts RP.byts Mg.byts Se.inc nextS
set_option maxHeartbeats 400000 in
theorem As_ok {kb rb n iss : Nat} {R : S} {t1 t2 t3 : Value} {bl : List RB} {RH r : List Ent} {W : World} (hB : RingB rb bl RH) (hm : bl.length ≤ 1000) {q : AsQ} (hq : (Mg.aq q).good) {now : Int} (hnow : tm now) {i1 i2 : Nat} {it1 it2 : RI} (h1 : lastAt (isP q.cl) (bl.map RB.it) 0 = some (i1, it1)) (h2 : lastAt (isP q.sv_) (bl.map RB.it) 0 = some (i2, it2))
  (hc : q.cl.1 = R) (hs : q.sv_ = (R, grantS ++ R)) (hR : R.length ≤ 1000) (ht : now ≤ q.till) (d : Nat) (hn : n ≤ 1000000) (hiss : iss ≤ 1000000) (hp : ((Pa.mk q.cl (K d) [] now (min q.till (now + 1000)))).good) :
  Tr Pg 126 #[ptr kb, .agg ([sv q.cl.1, sv q.cl.2, sv q.sv_.1, sv q.sv_.2, iv q.till, iv q.nc]).toArray, iv now, .agg ((K d).map bv).toArray] W ((kb, isC 177 [sv R, t1, t2, t3, ptr rb, iv n, iv iss]) :: (RH ++ r)) fun v l' => ∃ w1 w2 le, v = .tuple #[.agg ((Rp.mk q.cl ⟨q.sv_, it2.kv, Se.sealB (K it2.k) 2 (BitVec.ofNat 64 (n + 1)) ((Pa.mk q.cl (K d) [] now (min q.till (now + 1000)))).byts⟩ []).cells w1 w2).toArray, iv 0] ∧
   BV W le w1 (Se.sealB (K it2.k) 2 (BitVec.ofNat 64 (n + 1)) ((Pa.mk q.cl (K d) [] now (min q.till (now + 1000)))).byts) ∧ BV W le w2 (Se.sealB (K it1.k) 3 (BitVec.ofNat 64 (n + 2)) (RP.mk (K d) q.sv_ now (min q.till (now + 1000)) q.nc).byts) ∧ l' = le ++ ((kb, isC 177 [sv R, t1, t2, t3, ptr rb, iv ((n + 2 : Nat) : Int), iv ((iss + 1 : Nat) : Int)]) :: (RH ++ r)) := by
 obtain ⟨n1, n2⟩ := hnow
 obtain ⟨ka, kbb, kc, kd, ke, kf, kg, ki, kj, kk, kl, km, kn, ko, kp, kq, kA, kB, kC, kD, kE, kF, kG, kI, kJ, kK, kL, kM, kN, kO, kP, kQ, hk⟩ := len32 (K_len d)
 have hpc : ((Pa.mk q.cl (K d) [] now (min q.till (now + 1000)))).cells = [sv q.cl.1, sv q.cl.2, bv ka, bv kbb, bv kc, bv kd, bv ke, bv kf, bv kg, bv ki, bv kj, bv kk, bv kl, bv km, bv kn, bv ko, bv kp, bv kq, bv kA, bv kB, bv kC, bv kD, bv kE, bv kF, bv kG, bv kI, bv kJ, bv kK, bv kL, bv kM, bv kN, bv kO, bv kP, bv kQ, sv [], iv now, iv (min q.till (now + 1000))] := by unfold Pa.cells; dsimp only; rw [hk]; rfl
 have hhs : decide (q.sv_ = (R, grantS ++ R)) = true := decide_eq_true hs
 refine Tr.of_code (args := [_, _, _, _]) Tryz.func126 rfl Tryz.ntmps126 lE_ ?_
 rw [show ((K d).map bv).toArray = #[bv ka, bv kbb, bv kc, bv kd, bv ke, bv kf, bv kg, bv ki, bv kj, bv kk, bv kl, bv km, bv kn, bv ko, bv kp, bv kq, bv kA, bv kB, bv kC, bv kD, bv kE, bv kF, bv kG, bv kI, bv kJ, bv kK, bv kL, bv kM, bv kN, bv kO, bv kP, bv kQ] from by rw [hk]; rfl]
 refine AU0 ?_
 refine JLs (e_box (cs := [sv q.cl.1, sv q.cl.2, sv q.sv_.1, sv q.sv_.2, iv q.till, iv q.nc]) rfl rfl fun b5 => ?_)
 refine JLs (e_box (cs := [bv ka, bv kbb, bv kc, bv kd, bv ke, bv kf, bv kg, bv ki, bv kj, bv kk, bv kl, bv km, bv kn, bv ko, bv kp, bv kq, bv kA, bv kB, bv kC, bv kD, bv kE, bv kF, bv kG, bv kI, bv kJ, bv kK, bv kL, bv kM, bv kN, bv kO, bv kP, bv kQ]) rfl rfl fun b7 => ?_)
 refine JLs (e_alloc fun b8 => ?_)
 refine AU3 ?_
 refine JLp (y_build (cells := ((Mg.aq q).cells nl nl).toArray) (by kernel_rfl)) ?_
 refine AU0 ?_
 refine JLs (e_call rfl rfl (Encode_mg (m := .aq q) hq (w1 := nl) (w2 := nl) ⟨bv_nl .., bv_nl ..⟩) ?_)
 rintro v l' ⟨v1, le1, rfl, -, rfl⟩
 refine JL.sub (l' := (b8, isC 203 [.string ByteArray.empty, .string ByteArray.empty, .string ByteArray.empty, .string ByteArray.empty, .int .i64 0, .slice none 0 0, .slice none 0 0]) :: (b7, isC 55 [bv ka, bv kbb, bv kc, bv kd, bv ke, bv kf, bv kg, bv ki, bv kj, bv kk, bv kl, bv km, bv kn, bv ko, bv kp, bv kq, bv kA, bv kB, bv kC, bv kD, bv kE, bv kF, bv kG, bv kI, bv kJ, bv kK, bv kL, bv kM, bv kN, bv kO, bv kP, bv kQ]) :: (b5, isC 199 [sv q.cl.1, sv q.cl.2, sv q.sv_.1, sv q.sv_.2, iv q.till, iv q.nc]) :: (kb, isC 177 [sv R, t1, t2, t3, ptr rb, iv n, iv iss]) :: (RH ++ r)) (List.sublist_append_right le1 _) ?_
 refine AU0 ?_
 refine JLs (e_call rfl rfl (KTime_yes ⟨n1, n2⟩) ?_)
 rintro v l' ⟨rfl, rfl⟩
 refine AU0 ?_
 refine JC.drawn 14 rfl mixed ?_
 refine JDp 0 rfl y_mv ?_
 refine JDp 1 rfl (y_nilCheck rfl) ?_
 refine JDp 2 rfl (y_fieldAddr rfl) ?_
 refine JDr 3 3 rfl rfl (r_load1 rfl rfl) ?_
 refine JDp 4 rfl (y_fieldAddr rfl) ?_
 refine JDr 5 2 rfl rfl (r_loadA rfl lE_ rfl) ?_
 refine JDe 6 rfl (e_call rfl rfl (Tr.perm (l' := RH ++ ((b8, isC 203 [.string ByteArray.empty, .string ByteArray.empty, .string ByteArray.empty, .string ByteArray.empty, .int .i64 0, .slice none 0 0, .slice none 0 0]) :: (b7, isC 55 [bv ka, bv kbb, bv kc, bv kd, bv ke, bv kf, bv kg, bv ki, bv kj, bv kk, bv kl, bv km, bv kn, bv ko, bv kp, bv kq, bv kA, bv kB, bv kC, bv kD, bv kE, bv kF, bv kG, bv kI, bv kJ, bv kK, bv kL, bv kM, bv kN, bv kO, bv kP, bv kQ]) :: (b5, isC 199 [sv q.cl.1, sv q.cl.2, sv q.sv_.1, sv q.sv_.2, iv q.till, iv q.nc]) :: (kb, isC 177 [sv R, t1, t2, t3, ptr rb, iv n, iv iss]) :: r)) (perm_mid [_, _, _, _] RH r) (Last_ok (p := q.cl) hB hm h1)) ?_)
 rintro v l' ⟨rfl, x1, hx1, hxi1, rfl⟩
 refine ⟨tok_, ?_⟩
 refine JDp 7 rfl y_mv ?_
 refine JDp 8 rfl (y_extract rfl rfl) ?_
 refine JDp 9 rfl (y_extract rfl rfl) ?_
 refine JDp 10 rfl (y_extract rfl rfl) ?_
 refine JDp 11 rfl y_as ?_
 refine JDp 12 rfl y_as ?_
 refine JDp 13 rfl y_as ?_
 refine JDd ?_
 refine RN.perm (l' := (b8, isC 203 [.string ByteArray.empty, .string ByteArray.empty, .string ByteArray.empty, .string ByteArray.empty, .int .i64 0, .slice none 0 0, .slice none 0 0]) :: (b7, isC 55 [bv ka, bv kbb, bv kc, bv kd, bv ke, bv kf, bv kg, bv ki, bv kj, bv kk, bv kl, bv km, bv kn, bv ko, bv kp, bv kq, bv kA, bv kB, bv kC, bv kD, bv kE, bv kF, bv kG, bv kI, bv kJ, bv kK, bv kL, bv kM, bv kN, bv kO, bv kP, bv kQ]) :: (b5, isC 199 [sv q.cl.1, sv q.cl.2, sv q.sv_.1, sv q.sv_.2, iv q.till, iv q.nc]) :: (kb, isC 177 [sv R, t1, t2, t3, ptr rb, iv n, iv iss]) :: (RH ++ r)) (perm_mid [_, _, _, _] RH r).symm ?_
 refine AU0 ?_
 refine JC.drawn 14 rfl mixed ?_
 refine JDp 0 rfl y_mv ?_
 refine JDp 1 rfl (y_nilCheck rfl) ?_
 refine JDp 2 rfl (y_fieldAddr rfl) ?_
 refine JDr 3 3 rfl rfl (r_load1 rfl rfl) ?_
 refine JDp 4 rfl (y_fieldAddr rfl) ?_
 refine JDr 5 2 rfl rfl (r_loadA rfl lE_ rfl) ?_
 refine JDe 6 rfl (e_call rfl rfl (Tr.perm (l' := RH ++ ((b8, isC 203 [.string ByteArray.empty, .string ByteArray.empty, .string ByteArray.empty, .string ByteArray.empty, .int .i64 0, .slice none 0 0, .slice none 0 0]) :: (b7, isC 55 [bv ka, bv kbb, bv kc, bv kd, bv ke, bv kf, bv kg, bv ki, bv kj, bv kk, bv kl, bv km, bv kn, bv ko, bv kp, bv kq, bv kA, bv kB, bv kC, bv kD, bv kE, bv kF, bv kG, bv kI, bv kJ, bv kK, bv kL, bv kM, bv kN, bv kO, bv kP, bv kQ]) :: (b5, isC 199 [sv q.cl.1, sv q.cl.2, sv q.sv_.1, sv q.sv_.2, iv q.till, iv q.nc]) :: (kb, isC 177 [sv R, t1, t2, t3, ptr rb, iv n, iv iss]) :: r)) (perm_mid [_, _, _, _] RH r) (Last_ok (p := q.sv_) hB hm h2)) ?_)
 rintro v l' ⟨rfl, x2, hx2, hxi2, rfl⟩
 refine ⟨tok_, ?_⟩
 refine JDp 7 rfl y_mv ?_
 refine JDp 8 rfl (y_extract rfl rfl) ?_
 refine JDp 9 rfl (y_extract rfl rfl) ?_
 refine JDp 10 rfl (y_extract rfl rfl) ?_
 refine JDp 11 rfl y_as ?_
 refine JDp 12 rfl y_as ?_
 refine JDp 13 rfl y_as ?_
 refine JDd ?_
 refine RN.perm (l' := (b8, isC 203 [.string ByteArray.empty, .string ByteArray.empty, .string ByteArray.empty, .string ByteArray.empty, .int .i64 0, .slice none 0 0, .slice none 0 0]) :: (b7, isC 55 [bv ka, bv kbb, bv kc, bv kd, bv ke, bv kf, bv kg, bv ki, bv kj, bv kk, bv kl, bv km, bv kn, bv ko, bv kp, bv kq, bv kA, bv kB, bv kC, bv kD, bv kE, bv kF, bv kG, bv kI, bv kJ, bv kK, bv kL, bv kM, bv kN, bv kO, bv kP, bv kQ]) :: (b5, isC 199 [sv q.cl.1, sv q.cl.2, sv q.sv_.1, sv q.sv_.2, iv q.till, iv q.nc]) :: (kb, isC 177 [sv R, t1, t2, t3, ptr rb, iv n, iv iss]) :: (RH ++ r)) (perm_mid [_, _, _, _] RH r).symm ?_
 refine AU0 ?_
 refine JC.drawn 13 rfl mixed ?_
 refine JDp 0 rfl (y_fieldAddr rfl) ?_
 refine JDp 1 rfl (y_fieldAddr rfl) ?_
 refine JDr 2 2 rfl rfl (r_load1 rfl rfl) ?_
 refine JDp 3 rfl y_mv ?_
 refine JDp 4 rfl (y_nilCheck rfl) ?_
 refine JDp 5 rfl (y_fieldAddr rfl) ?_
 refine JDr 6 3 rfl rfl (r_load1 rfl rfl) ?_
 refine JDp 7 rfl (y_neqS rfl rfl (r := false) (neqSS_same hc)) ?_
 refine JDp 8 rfl y_mv ?_
 refine JDp 9 rfl y_mv ?_
 refine JDp 10 rfl (y_neq rfl rfl (r := false) (decide_eq_true (by omega))) ?_
 refine JDp 11 rfl (y_pick_f rfl (by conv => lhs; whnf)) ?_
 refine JDp 12 rfl y_as ?_
 refine JDd ?_
 refine AU0 ?_
 refine JC.drawn 14 rfl mixed ?_
 refine JDp 0 rfl (y_fieldAddr rfl) ?_
 refine JDr 1 2 rfl rfl (r_loadA rfl lE_ rfl) ?_
 refine JDp 2 rfl y_mv ?_
 refine JDp 3 rfl y_mv ?_
 refine JDp 4 rfl (y_nilCheck rfl) ?_
 refine JDp 5 rfl (y_fieldAddr rfl) ?_
 refine JDr 6 3 rfl rfl (r_load1 rfl rfl) ?_
 refine JDe 7 rfl (e_call rfl rfl (grants_ok (s := R) hR (R := R) (t1 := t1) (t2 := t2) (t3 := t3) (rb := rb) (n := n) (iss := iss) (by simp)) ?_)
 rintro v l' ⟨rfl, rfl⟩
 refine ⟨tok_, ?_⟩
 refine JDp 8 rfl (y_neqAns (r := true) rfl rfl (by rw [← hhs]; exact eq_princ q.sv_ (R, grantS ++ R)) (by decide)) ?_
 refine JDp 9 rfl y_mv ?_
 refine JDp 10 rfl y_mv ?_
 refine JDp 11 rfl (y_neq rfl rfl (r := false) (decide_eq_true (by omega))) ?_
 refine JDp 12 rfl (y_pick_f rfl (by conv => lhs; whnf)) ?_
 refine JDp 13 rfl y_as ?_
 refine JDd ?_
 repeat (first | refine JLp (y_min rfl rfl (min_int _ _)) ?_ | refine AS4 ?_)
 refine JLp (y_build (cells := ([sv q.cl.1, sv q.cl.2, bv ka, bv kbb, bv kc, bv kd, bv ke, bv kf, bv kg, bv ki, bv kj, bv kk, bv kl, bv km, bv kn, bv ko, bv kp, bv kq, bv kA, bv kB, bv kC, bv kD, bv kE, bv kF, bv kG, bv kI, bv kJ, bv kK, bv kL, bv kM, bv kN, bv kO, bv kP, bv kQ, sv [], iv now, iv (min q.till (now + 1000))]).toArray) (by kernel_rfl)) ?_
 refine JLs (e_alloc fun b18 => ?_)
 refine JLs (e_store 0 rfl rfl rfl (vs := [sv q.cl.1, sv q.cl.2, bv ka, bv kbb, bv kc, bv kd, bv ke, bv kf, bv kg, bv ki, bv kj, bv kk, bv kl, bv km, bv kn, bv ko, bv kp, bv kq, bv kA, bv kB, bv kC, bv kD, bv kE, bv kF, bv kG, bv kI, bv kJ, bv kK, bv kL, bv kM, bv kN, bv kO, bv kP, bv kQ, sv [], iv now, iv (min q.till (now + 1000))]) rfl rfl rfl lE_ ?_)
 refine JL.cast (l' := (b18, isC 269 [sv q.cl.1, sv q.cl.2, bv ka, bv kbb, bv kc, bv kd, bv ke, bv kf, bv kg, bv ki, bv kj, bv kk, bv kl, bv km, bv kn, bv ko, bv kp, bv kq, bv kA, bv kB, bv kC, bv kD, bv kE, bv kF, bv kG, bv kI, bv kJ, bv kK, bv kL, bv kM, bv kN, bv kO, bv kP, bv kQ, sv [], iv now, iv (min q.till (now + 1000))]) :: (b8, isC 203 [.string ByteArray.empty, .string ByteArray.empty, .string ByteArray.empty, .string ByteArray.empty, .int .i64 0, .slice none 0 0, .slice none 0 0]) :: (b7, isC 55 [bv ka, bv kbb, bv kc, bv kd, bv ke, bv kf, bv kg, bv ki, bv kj, bv kk, bv kl, bv km, bv kn, bv ko, bv kp, bv kq, bv kA, bv kB, bv kC, bv kD, bv kE, bv kF, bv kG, bv kI, bv kJ, bv kK, bv kL, bv kM, bv kN, bv kO, bv kP, bv kQ]) :: (b5, isC 199 [sv q.cl.1, sv q.cl.2, sv q.sv_.1, sv q.sv_.2, iv q.till, iv q.nc]) :: (kb, isC 177 [sv R, t1, t2, t3, ptr rb, iv n, iv iss]) :: (RH ++ r)) rfl ?_
 refine AU4 ?_
 refine JLp (y_build (cells := ([sv q.sv_.1, sv q.sv_.2, sv q.cl.1, sv q.cl.2, bv ka, bv kbb, bv kc, bv kd, bv ke, bv kf, bv kg, bv ki, bv kj, bv kk, bv kl, bv km, bv kn, bv ko, bv kp, bv kq, bv kA, bv kB, bv kC, bv kD, bv kE, bv kF, bv kG, bv kI, bv kJ, bv kK, bv kL, bv kM, bv kN, bv kO, bv kP, bv kQ, sv [], iv now, iv (min q.till (now + 1000)), iv q.nc, ptr x1.xb, iv 3]).toArray) (by kernel_rfl)) ?_
 have hans : ([sv q.sv_.1, sv q.sv_.2, sv q.cl.1, sv q.cl.2, bv ka, bv kbb, bv kc, bv kd, bv ke, bv kf, bv kg, bv ki, bv kj, bv kk, bv kl, bv km, bv kn, bv ko, bv kp, bv kq, bv kA, bv kB, bv kC, bv kD, bv kE, bv kF, bv kG, bv kI, bv kJ, bv kK, bv kL, bv kM, bv kN, bv kO, bv kP, bv kQ, sv [], iv now, iv (min q.till (now + 1000)), iv q.nc, ptr x1.xb, iv 3]) = ansC q.sv_ ((Pa.mk q.cl (K d) [] now (min q.till (now + 1000)))) q.nc x1.xb ((3 : Nat) : Int) := by unfold ansC; rw [hpc]; rfl
 rw [hans]
 refine JL.perm (l' := (kb, isC 177 [sv R, t1, t2, t3, ptr rb, iv n, iv iss]) :: (RH ++ ([] ++ ((b18, isC 269 [sv q.cl.1, sv q.cl.2, bv ka, bv kbb, bv kc, bv kd, bv ke, bv kf, bv kg, bv ki, bv kj, bv kk, bv kl, bv km, bv kn, bv ko, bv kp, bv kq, bv kA, bv kB, bv kC, bv kD, bv kE, bv kF, bv kG, bv kI, bv kJ, bv kK, bv kL, bv kM, bv kN, bv kO, bv kP, bv kQ, sv [], iv now, iv (min q.till (now + 1000))]) :: (b8, isC 203 [.string ByteArray.empty, .string ByteArray.empty, .string ByteArray.empty, .string ByteArray.empty, .int .i64 0, .slice none 0 0, .slice none 0 0]) :: (b7, isC 55 [bv ka, bv kbb, bv kc, bv kd, bv ke, bv kf, bv kg, bv ki, bv kj, bv kk, bv kl, bv km, bv kn, bv ko, bv kp, bv kq, bv kA, bv kB, bv kC, bv kD, bv kE, bv kF, bv kG, bv kI, bv kJ, bv kK, bv kL, bv kM, bv kN, bv kO, bv kP, bv kQ]) :: (b5, isC 199 [sv q.cl.1, sv q.cl.2, sv q.sv_.1, sv q.sv_.2, iv q.till, iv q.nc]) :: r)))) prm_ ?_
 refine JLs (e_call rfl rfl (makes_ok hB hm h2 hq.2.1 hn hiss hp hq.2.2.2 (kyy := K it1.k) (xb := x1.xb) (u := 3) (by decide) (BH := []) (fun r' a bs v ha hb hv => by rw [← hxi1]; exact RSeal_ok hB hx1 (by decide) ha hb hv)) ?_)
 rintro v l' ⟨w1, w2, le, rfl, hw1, hw2, rfl⟩
 obtain ⟨Aw, cw, rfl, hsw⟩ := id hw1
 obtain ⟨Ao, co, rfl, hso⟩ := id hw2
 refine JL.perm (l' := (b8, isC 203 [.string ByteArray.empty, .string ByteArray.empty, .string ByteArray.empty, .string ByteArray.empty, .int .i64 0, .slice none 0 0, .slice none 0 0]) :: (le ++ ((kb, isC 177 [sv R, t1, t2, t3, ptr rb, iv ((n + 2 : Nat) : Int), iv ((iss + 1 : Nat) : Int)]) :: (RH ++ ((b18, isC 269 [sv q.cl.1, sv q.cl.2, bv ka, bv kbb, bv kc, bv kd, bv ke, bv kf, bv kg, bv ki, bv kj, bv kk, bv kl, bv km, bv kn, bv ko, bv kp, bv kq, bv kA, bv kB, bv kC, bv kD, bv kE, bv kF, bv kG, bv kI, bv kJ, bv kK, bv kL, bv kM, bv kN, bv kO, bv kP, bv kQ, sv [], iv now, iv (min q.till (now + 1000))]) :: (b7, isC 55 [bv ka, bv kbb, bv kc, bv kd, bv ke, bv kf, bv kg, bv ki, bv kj, bv kk, bv kl, bv km, bv kn, bv ko, bv kp, bv kq, bv kA, bv kB, bv kC, bv kD, bv kE, bv kF, bv kG, bv kI, bv kJ, bv kK, bv kL, bv kM, bv kN, bv kO, bv kP, bv kQ]) :: (b5, isC 199 [sv q.cl.1, sv q.cl.2, sv q.sv_.1, sv q.sv_.2, iv q.till, iv q.nc]) :: r))))) prm_ ?_
 refine AU0 ?_
 refine JLs (e_store 0 rfl rfl rfl (vs := (Rp.mk q.cl ⟨q.sv_, it2.kv, Se.sealB (K it2.k) 2 (BitVec.ofNat 64 (n + 1)) ((Pa.mk q.cl (K d) [] now (min q.till (now + 1000)))).byts⟩ []).cells _ _) rfl rfl rfl lE_ ?_)
 refine AU0 ?_
 refine JC.ret (ret_cell2 rfl rfl 0 rfl rfl rfl (by conv => lhs; whnf) (l' := le ++ ((kb, isC 177 [sv R, t1, t2, t3, ptr rb, iv ((n + 2 : Nat) : Int), iv ((iss + 1 : Nat) : Int)]) :: (RH ++ r))) ?_ ⟨_, _, le, rfl, hw1, hw2, rfl⟩)
 exact List.Sublist.cons _ (List.Sublist.append_left (List.Sublist.cons_cons _ (List.Sublist.append_left (List.sublist_append_right [_, _, _] r) _)) _)
end Go.Proofs.YtbalcgjphkdecaaGreatDoor.To
namespace Go.Proofs.YtbalcgjphkdecaaGreatDoor.To
open Go.RowKit Go.Lg
set_option maxRecDepth 100000
attribute [local irreducible] JC JL JD RN RT Eff Yld YldIf Tr partsL okR splitL wordB joinD fit betweenS laidS viaS De.wrapB De.num De.clampI K Se.sealB Pa.byts Au.byts RP.byts Mg.byts Se.inc nextS
theorem BHbox {xb kb : Nat} {kk : Bs} (hk : kk.length = 32) {RH : List Ent} {u : Nat} (hu : u ≤ 255) {W : World} (r' : List Ent) (q : Nat) (bs : Bs) (v : Value) (hq : q ≤ 1000002) (hb : bs.length ≤ 784) (hv : BV W r' v bs) :
  Tr Pg 121 #[ptr xb, iv u, iv q, v] W (RH ++ ([(xb, isBx kb kk), (kb, isKy kk)] ++ r')) fun v l' => ∃ v1 le, v = .tuple #[v1, iv 0] ∧ OwnB v1 (Se.sealB kk u (BitVec.ofNat 64 q) bs) le ∧ l' = le ++ (RH ++ ([(xb, isBx kb kk), (kb, isKy kk)] ++ r')) := by
 refine Tr.perm (perm_mid RH [(xb, isBx kb kk), (kb, isKy kk)] r') (Tr.out (BSeal_ok (r := RH ++ r') hk hu hq hb (hv.mono fun e he => by simp [he])) ?_)
 rintro v l' ⟨v1, le, rfl, ho, rfl⟩
 exact ⟨_, Imp.perm (List.Perm.append_left le (perm_mid RH [(xb, isBx kb kk), (kb, isKy kk)] r').symm), v1, le, rfl, ho, rfl⟩
set_option maxHeartbeats 1000000 in
theorem Tgs_ok {kb rb n iss : Nat} {R : S} {t1 t2 t3 : Value} {bl : List RB} {RH r : List Ent} {W : World} (hB : RingB rb bl RH) (hm : bl.length ≤ 1000) {sv_ s to : P2} {kv k : Nat} {it : RI} {till nc now : Int} {q1 q2 : Nat} (hq1 : q1 ≤ 1000002) (hq2 : q2 ≤ 1000002) {p : Pa} (hp : p.good) {a : Au} (ha : a.good)
  (hg : ((Mg.tg ⟨⟨sv_, (kv : Int), Se.sealB (K it.k) 2 (BitVec.ofNat 64 q1) p.byts⟩, Se.sealB p.ses 7 (BitVec.ofNat 64 q2) a.byts, s, till, nc⟩)).good) {w1 w2 : Value} (hw1 : BV W r w1 (Se.sealB (K it.k) 2 (BitVec.ofNat 64 q1) p.byts)) (hw2 : BV W r w2 (Se.sealB p.ses 7 (BitVec.ofNat 64 q2) a.byts))
  (hnow : tm now) (hR : R.length ≤ 1000) (hsv : sv_.2 = grantS ++ R) (hl : lastAt (isPk sv_ kv) (bl.map RB.it) 0 = some (k, it)) (h1 : now ≤ p.en) (h2 : p.st ≤ now + 5) (hcl : a.cl = p.cl) (h3 : a.tm_ ≤ now + 5) (h4 : now - 5 ≤ a.tm_) (ht : now ≤ till)
  (htg : ∀ r', (∀ e ∈ r, e ∈ r') → Tr Pg 166 #[ptr kb, pv s] W ((kb, isC 177 [sv R, t1, t2, t3, ptr rb, iv n, iv iss]) :: (RH ++ r')) fun v l' => v = .tuple #[pv to, iv 0] ∧ l' = (kb, isC 177 [sv R, t1, t2, t3, ptr rb, iv n, iv iss]) :: (RH ++ r')) {tr2 : S}
  (hps : ∀ r', Tr Pg 167 #[ptr kb, .agg p.cells.toArray, sv sv_.1, sv s.1] W ((kb, isC 177 [sv R, t1, t2, t3, ptr rb, iv n, iv iss]) :: r') fun v l' => v = .tuple #[sv tr2, iv 0] ∧ l' = (kb, isC 177 [sv R, t1, t2, t3, ptr rb, iv n, iv iss]) :: r')
  {j : Nat} {it2 : RI} (hl2 : lastAt (isP to) (bl.map RB.it) 0 = some (j, it2)) (hto : okP to) (d : Nat) (hn : n ≤ 1000000) (hiss : iss ≤ 1000000) (hp2 : (Pa.mk p.cl (K d) tr2 now (min till p.en)).good) :
  Tr Pg 127 #[ptr kb, .agg #[sv sv_.1, sv sv_.2, iv kv, w1, w2, sv s.1, sv s.2, iv till, iv nc], iv now, .agg ((K d).map bv).toArray] W ((kb, isC 177 [sv R, t1, t2, t3, ptr rb, iv n, iv iss]) :: (RH ++ r)) fun v l' => ∃ w1 w2 le, v = .tuple #[.agg ((Rp.mk p.cl ⟨to, it2.kv, Se.sealB (K it2.k) 2 (BitVec.ofNat 64 (n + 1)) (Pa.mk p.cl (K d) tr2 now (min till p.en)).byts⟩ []).cells w1 w2).toArray, iv 0] ∧
   BV W le w1 (Se.sealB (K it2.k) 2 (BitVec.ofNat 64 (n + 1)) (Pa.mk p.cl (K d) tr2 now (min till p.en)).byts) ∧ BV W le w2 (Se.sealB p.ses 8 (BitVec.ofNat 64 (n + 2)) (RP.mk (K d) to now (min till p.en) nc).byts) ∧ l' = le ++ ((kb, isC 177 [sv R, t1, t2, t3, ptr rb, iv ((n + 2 : Nat) : Int), iv ((iss + 1 : Nat) : Int)]) :: (RH ++ r)) := by
 obtain ⟨n1, n2⟩ := id hnow
 obtain ⟨ya, yb, yc, yd, ye, yf, yg, yi, yj, yk, yl, ym, yn, yo, yp, yq, yA, yB, yC, yD, yE, yF, yG, yI, yJ, yK, yL, yM, yN, yO, yP, yQ, hk⟩ := len32 (K_len d)
 obtain ⟨cl, ses, tr, st, en⟩ := p
 dsimp only at *
 obtain ⟨ka, kbb, kc, kd, ke, kf, kg, ki, kj, kk, kl, km, kn, ko, kp, kq, kA, kB, kC, kD, kE, kF, kG, kI, kJ, kK, kL, kM, kN, kO, kP, kQ, rfl⟩ := len32 hp.2.1
 have hpc : ((Pa.mk cl (K d) tr2 now (min till en))).cells = [sv cl.1, sv cl.2, bv ya, bv yb, bv yc, bv yd, bv ye, bv yf, bv yg, bv yi, bv yj, bv yk, bv yl, bv ym, bv yn, bv yo, bv yp, bv yq, bv yA, bv yB, bv yC, bv yD, bv yE, bv yF, bv yG, bv yI, bv yJ, bv yK, bv yL, bv yM, bv yN, bv yO, bv yP, bv yQ, sv tr2, iv now, iv (min till en)] := by unfold Pa.cells; dsimp only; rw [hk]; rfl
 obtain ⟨A1, c1, rfl, hs1⟩ := id hw1
 obtain ⟨A2, c2, rfl, hs2⟩ := id hw2
 have hat : (Mg.tg ⟨⟨sv_, (kv : Int), Se.sealB (K it.k) 2 (BitVec.ofNat 64 q1) ((Pa.mk cl [ka, kbb, kc, kd, ke, kf, kg, ki, kj, kk, kl, km, kn, ko, kp, kq, kA, kB, kC, kD, kE, kF, kG, kI, kJ, kK, kL, kM, kN, kO, kP, kQ] tr st en)).byts⟩, Se.sealB [ka, kbb, kc, kd, ke, kf, kg, ki, kj, kk, kl, km, kn, ko, kp, kq, kA, kB, kC, kD, kE, kF, kG, kI, kJ, kK, kL, kM, kN, kO, kP, kQ] 7 (BitVec.ofNat 64 q2) a.byts, s, till, nc⟩).at_ W r (.slice A1 _ c1) (.slice A2 _ c2) := ⟨hw1, hw2⟩
 generalize hlen1 : (Se.sealB (K it.k) 2 (BitVec.ofNat 64 q1) ((Pa.mk cl [ka, kbb, kc, kd, ke, kf, kg, ki, kj, kk, kl, km, kn, ko, kp, kq, kA, kB, kC, kD, kE, kF, kG, kI, kJ, kK, kL, kM, kN, kO, kP, kQ] tr st en)).byts).length = len1 at *
 generalize hlen2 : (Se.sealB [ka, kbb, kc, kd, ke, kf, kg, ki, kj, kk, kl, km, kn, ko, kp, kq, kA, kB, kC, kD, kE, kF, kG, kI, kJ, kK, kL, kM, kN, kO, kP, kQ] 7 (BitVec.ofNat 64 q2) a.byts).length = len2 at *
 refine Tr.of_code (args := [_, _, _, _]) Tryz.func127 rfl Tryz.ntmps127 lE_ ?_
 rw [show ((K d).map bv).toArray = #[bv ya, bv yb, bv yc, bv yd, bv ye, bv yf, bv yg, bv yi, bv yj, bv yk, bv yl, bv ym, bv yn, bv yo, bv yp, bv yq, bv yA, bv yB, bv yC, bv yD, bv yE, bv yF, bv yG, bv yI, bv yJ, bv yK, bv yL, bv yM, bv yN, bv yO, bv yP, bv yQ] from by rw [hk]; rfl]
 refine AU0 ?_
 refine JLs (e_box (cs := [sv sv_.1, sv sv_.2, iv kv, .slice A1 len1 c1, .slice A2 len2 c2, sv s.1, sv s.2, iv till, iv nc]) rfl rfl fun b5 => ?_)
 refine JLs (e_box (cs := [bv ya, bv yb, bv yc, bv yd, bv ye, bv yf, bv yg, bv yi, bv yj, bv yk, bv yl, bv ym, bv yn, bv yo, bv yp, bv yq, bv yA, bv yB, bv yC, bv yD, bv yE, bv yF, bv yG, bv yI, bv yJ, bv yK, bv yL, bv yM, bv yN, bv yO, bv yP, bv yQ]) rfl rfl fun b7 => ?_)
 refine JLs (e_alloc fun b8 => ?_)
 refine AU3 ?_
 refine JLp (y_build (cells := ((Mg.tg ⟨⟨sv_, (kv : Int), Se.sealB (K it.k) 2 (BitVec.ofNat 64 q1) ((Pa.mk cl [ka, kbb, kc, kd, ke, kf, kg, ki, kj, kk, kl, km, kn, ko, kp, kq, kA, kB, kC, kD, kE, kF, kG, kI, kJ, kK, kL, kM, kN, kO, kP, kQ] tr st en)).byts⟩, Se.sealB [ka, kbb, kc, kd, ke, kf, kg, ki, kj, kk, kl, km, kn, ko, kp, kq, kA, kB, kC, kD, kE, kF, kG, kI, kJ, kK, kL, kM, kN, kO, kP, kQ] 7 (BitVec.ofNat 64 q2) a.byts, s, till, nc⟩).cells (.slice A1 len1 c1) (.slice A2 len2 c2)).toArray) (by kernel_rfl)) ?_
 refine AU0 ?_
 refine JLs (e_call rfl rfl (Encode_mg hg ⟨hat.1.mono fun e he => by simp [he], hat.2.mono fun e he => by simp [he]⟩) ?_)
 rintro v l' ⟨v1, le1, rfl, -, rfl⟩
 refine JL.sub (l' := (b8, isC 203 [.string ByteArray.empty, .string ByteArray.empty, .string ByteArray.empty, .string ByteArray.empty, .int .i64 0, .slice none 0 0, .slice none 0 0]) :: (b7, isC 55 [bv ya, bv yb, bv yc, bv yd, bv ye, bv yf, bv yg, bv yi, bv yj, bv yk, bv yl, bv ym, bv yn, bv yo, bv yp, bv yq, bv yA, bv yB, bv yC, bv yD, bv yE, bv yF, bv yG, bv yI, bv yJ, bv yK, bv yL, bv yM, bv yN, bv yO, bv yP, bv yQ]) :: (b5, isC 201 [sv sv_.1, sv sv_.2, iv kv, .slice A1 len1 c1, .slice A2 len2 c2, sv s.1, sv s.2, iv till, iv nc]) :: (kb, isC 177 [sv R, t1, t2, t3, ptr rb, iv n, iv iss]) :: (RH ++ r)) (List.sublist_append_right le1 _) ?_
 refine AU0 ?_
 refine JLs (e_call rfl rfl (KTime_yes ⟨n1, n2⟩) ?_)
 rintro v l' ⟨rfl, rfl⟩
 refine AU4 ?_
 refine JLs (e_call rfl rfl (Tr.perm (l' := (kb, isC 177 [sv R, t1, t2, t3, ptr rb, iv n, iv iss]) :: (RH ++ ((b8, isC 203 [.string ByteArray.empty, .string ByteArray.empty, .string ByteArray.empty, .string ByteArray.empty, .int .i64 0, .slice none 0 0, .slice none 0 0]) :: (b7, isC 55 [bv ya, bv yb, bv yc, bv yd, bv ye, bv yf, bv yg, bv yi, bv yj, bv yk, bv yl, bv ym, bv yn, bv yo, bv yp, bv yq, bv yA, bv yB, bv yC, bv yD, bv yE, bv yF, bv yG, bv yI, bv yJ, bv yK, bv yL, bv yM, bv yN, bv yO, bv yP, bv yQ]) :: (b5, isC 201 [sv sv_.1, sv sv_.2, iv kv, .slice A1 len1 c1, .slice A2 len2 c2, sv s.1, sv s.2, iv till, iv nc]) :: r))) prm_ (shown_ok hB hm hR hl hsv hq1 hp (hw1.mono fun e he => by simp [he]) hnow h1 h2)) ?_)
 rintro v l' ⟨rfl, rfl⟩
 refine AU0 ?_
 refine JLs (e_alloc fun b12 => ?_)
 refine JLs (e_store 0 rfl rfl rfl (vs := [sv cl.1, sv cl.2, bv ka, bv kbb, bv kc, bv kd, bv ke, bv kf, bv kg, bv ki, bv kj, bv kk, bv kl, bv km, bv kn, bv ko, bv kp, bv kq, bv kA, bv kB, bv kC, bv kD, bv kE, bv kF, bv kG, bv kI, bv kJ, bv kK, bv kL, bv kM, bv kN, bv kO, bv kP, bv kQ, sv tr, iv st, iv en]) rfl rfl rfl lE_ ?_)
 refine JL.cast (l' := (b12, isC 269 [sv cl.1, sv cl.2, bv ka, bv kbb, bv kc, bv kd, bv ke, bv kf, bv kg, bv ki, bv kj, bv kk, bv kl, bv km, bv kn, bv ko, bv kp, bv kq, bv kA, bv kB, bv kC, bv kD, bv kE, bv kF, bv kG, bv kI, bv kJ, bv kK, bv kL, bv kM, bv kN, bv kO, bv kP, bv kQ, sv tr, iv st, iv en]) :: (kb, isC 177 [sv R, t1, t2, t3, ptr rb, iv n, iv iss]) :: (RH ++ ((b8, isC 203 [.string ByteArray.empty, .string ByteArray.empty, .string ByteArray.empty, .string ByteArray.empty, .int .i64 0, .slice none 0 0, .slice none 0 0]) :: (b7, isC 55 [bv ya, bv yb, bv yc, bv yd, bv ye, bv yf, bv yg, bv yi, bv yj, bv yk, bv yl, bv ym, bv yn, bv yo, bv yp, bv yq, bv yA, bv yB, bv yC, bv yD, bv yE, bv yF, bv yG, bv yI, bv yJ, bv yK, bv yL, bv yM, bv yN, bv yO, bv yP, bv yQ]) :: (b5, isC 201 [sv sv_.1, sv sv_.2, iv kv, .slice A1 len1 c1, .slice A2 len2 c2, sv s.1, sv s.2, iv till, iv nc]) :: r))) rfl ?_
 refine AU1 ?_
 refine JLs (e_call rfl rfl (BNew_ok (kk := [ka, kbb, kc, kd, ke, kf, kg, ki, kj, kk, kl, km, kn, ko, kp, kq, kA, kB, kC, kD, kE, kF, kG, kI, kJ, kK, kL, kM, kN, kO, kP, kQ]) rfl) ?_)
 rintro v l' ⟨xb, kb2, rfl, rfl⟩
 refine JL.perm (l' := (b12, isC 269 [sv cl.1, sv cl.2, bv ka, bv kbb, bv kc, bv kd, bv ke, bv kf, bv kg, bv ki, bv kj, bv kk, bv kl, bv km, bv kn, bv ko, bv kp, bv kq, bv kA, bv kB, bv kC, bv kD, bv kE, bv kF, bv kG, bv kI, bv kJ, bv kK, bv kL, bv kM, bv kN, bv kO, bv kP, bv kQ, sv tr, iv st, iv en]) :: (b5, isC 201 [sv sv_.1, sv sv_.2, iv kv, .slice A1 len1 c1, .slice A2 len2 c2, sv s.1, sv s.2, iv till, iv nc]) :: (kb, isC 177 [sv R, t1, t2, t3, ptr rb, iv n, iv iss]) :: (xb, isBx kb2 [ka, kbb, kc, kd, ke, kf, kg, ki, kj, kk, kl, km, kn, ko, kp, kq, kA, kB, kC, kD, kE, kF, kG, kI, kJ, kK, kL, kM, kN, kO, kP, kQ]) :: (kb2, isKy [ka, kbb, kc, kd, ke, kf, kg, ki, kj, kk, kl, km, kn, ko, kp, kq, kA, kB, kC, kD, kE, kF, kG, kI, kJ, kK, kL, kM, kN, kO, kP, kQ]) :: (RH ++ ((b8, isC 203 [.string ByteArray.empty, .string ByteArray.empty, .string ByteArray.empty, .string ByteArray.empty, .int .i64 0, .slice none 0 0, .slice none 0 0]) :: (b7, isC 55 [bv ya, bv yb, bv yc, bv yd, bv ye, bv yf, bv yg, bv yi, bv yj, bv yk, bv yl, bv ym, bv yn, bv yo, bv yp, bv yq, bv yA, bv yB, bv yC, bv yD, bv yE, bv yF, bv yG, bv yI, bv yJ, bv yK, bv yL, bv yM, bv yN, bv yO, bv yP, bv yQ]) :: r))) prm_ ?_
 refine AU2 ?_
 refine JLs (e_call rfl rfl (Tr.perm (l' := (xb, isBx kb2 [ka, kbb, kc, kd, ke, kf, kg, ki, kj, kk, kl, km, kn, ko, kp, kq, kA, kB, kC, kD, kE, kF, kG, kI, kJ, kK, kL, kM, kN, kO, kP, kQ]) :: (kb2, isKy [ka, kbb, kc, kd, ke, kf, kg, ki, kj, kk, kl, km, kn, ko, kp, kq, kA, kB, kC, kD, kE, kF, kG, kI, kJ, kK, kL, kM, kN, kO, kP, kQ]) :: ((b12, isC 269 [sv cl.1, sv cl.2, bv ka, bv kbb, bv kc, bv kd, bv ke, bv kf, bv kg, bv ki, bv kj, bv kk, bv kl, bv km, bv kn, bv ko, bv kp, bv kq, bv kA, bv kB, bv kC, bv kD, bv kE, bv kF, bv kG, bv kI, bv kJ, bv kK, bv kL, bv kM, bv kN, bv kO, bv kP, bv kQ, sv tr, iv st, iv en]) :: (b5, isC 201 [sv sv_.1, sv sv_.2, iv kv, .slice A1 len1 c1, .slice A2 len2 c2, sv s.1, sv s.2, iv till, iv nc]) :: (kb, isC 177 [sv R, t1, t2, t3, ptr rb, iv n, iv iss]) :: (RH ++ ((b8, isC 203 [.string ByteArray.empty, .string ByteArray.empty, .string ByteArray.empty, .string ByteArray.empty, .int .i64 0, .slice none 0 0, .slice none 0 0]) :: (b7, isC 55 [bv ya, bv yb, bv yc, bv yd, bv ye, bv yf, bv yg, bv yi, bv yj, bv yk, bv yl, bv ym, bv yn, bv yo, bv yp, bv yq, bv yA, bv yB, bv yC, bv yD, bv yE, bv yF, bv yG, bv yI, bv yJ, bv yK, bv yL, bv yM, bv yN, bv yO, bv yP, bv yQ]) :: r)))) prm_ (proves_ok hq2 ha (p := (Pa.mk cl [ka, kbb, kc, kd, ke, kf, kg, ki, kj, kk, kl, km, kn, ko, kp, kq, kA, kB, kC, kD, kE, kF, kG, kI, kJ, kK, kL, kM, kN, kO, kP, kQ] tr st en)) hp hcl (hw2.mono fun e he => by simp [he]) hnow h3 h4)) ?_)
 rintro v l' ⟨rfl, rfl⟩
 refine JL.perm (l' := (b12, isC 269 [sv cl.1, sv cl.2, bv ka, bv kbb, bv kc, bv kd, bv ke, bv kf, bv kg, bv ki, bv kj, bv kk, bv kl, bv km, bv kn, bv ko, bv kp, bv kq, bv kA, bv kB, bv kC, bv kD, bv kE, bv kF, bv kG, bv kI, bv kJ, bv kK, bv kL, bv kM, bv kN, bv kO, bv kP, bv kQ, sv tr, iv st, iv en]) :: (b5, isC 201 [sv sv_.1, sv sv_.2, iv kv, .slice A1 len1 c1, .slice A2 len2 c2, sv s.1, sv s.2, iv till, iv nc]) :: (kb, isC 177 [sv R, t1, t2, t3, ptr rb, iv n, iv iss]) :: (xb, isBx kb2 [ka, kbb, kc, kd, ke, kf, kg, ki, kj, kk, kl, km, kn, ko, kp, kq, kA, kB, kC, kD, kE, kF, kG, kI, kJ, kK, kL, kM, kN, kO, kP, kQ]) :: (kb2, isKy [ka, kbb, kc, kd, ke, kf, kg, ki, kj, kk, kl, km, kn, ko, kp, kq, kA, kB, kC, kD, kE, kF, kG, kI, kJ, kK, kL, kM, kN, kO, kP, kQ]) :: (RH ++ ((b8, isC 203 [.string ByteArray.empty, .string ByteArray.empty, .string ByteArray.empty, .string ByteArray.empty, .int .i64 0, .slice none 0 0, .slice none 0 0]) :: (b7, isC 55 [bv ya, bv yb, bv yc, bv yd, bv ye, bv yf, bv yg, bv yi, bv yj, bv yk, bv yl, bv ym, bv yn, bv yo, bv yp, bv yq, bv yA, bv yB, bv yC, bv yD, bv yE, bv yF, bv yG, bv yI, bv yJ, bv yK, bv yL, bv yM, bv yN, bv yO, bv yP, bv yQ]) :: r))) prm_ ?_
 refine AU2 ?_
 refine JLs (e_call rfl rfl (Tr.perm (l' := (kb, isC 177 [sv R, t1, t2, t3, ptr rb, iv n, iv iss]) :: (RH ++ ((b12, isC 269 [sv cl.1, sv cl.2, bv ka, bv kbb, bv kc, bv kd, bv ke, bv kf, bv kg, bv ki, bv kj, bv kk, bv kl, bv km, bv kn, bv ko, bv kp, bv kq, bv kA, bv kB, bv kC, bv kD, bv kE, bv kF, bv kG, bv kI, bv kJ, bv kK, bv kL, bv kM, bv kN, bv kO, bv kP, bv kQ, sv tr, iv st, iv en]) :: (b5, isC 201 [sv sv_.1, sv sv_.2, iv kv, .slice A1 len1 c1, .slice A2 len2 c2, sv s.1, sv s.2, iv till, iv nc]) :: (xb, isBx kb2 [ka, kbb, kc, kd, ke, kf, kg, ki, kj, kk, kl, km, kn, ko, kp, kq, kA, kB, kC, kD, kE, kF, kG, kI, kJ, kK, kL, kM, kN, kO, kP, kQ]) :: (kb2, isKy [ka, kbb, kc, kd, ke, kf, kg, ki, kj, kk, kl, km, kn, ko, kp, kq, kA, kB, kC, kD, kE, kF, kG, kI, kJ, kK, kL, kM, kN, kO, kP, kQ]) :: (b8, isC 203 [.string ByteArray.empty, .string ByteArray.empty, .string ByteArray.empty, .string ByteArray.empty, .int .i64 0, .slice none 0 0, .slice none 0 0]) :: (b7, isC 55 [bv ya, bv yb, bv yc, bv yd, bv ye, bv yf, bv yg, bv yi, bv yj, bv yk, bv yl, bv ym, bv yn, bv yo, bv yp, bv yq, bv yA, bv yB, bv yC, bv yD, bv yE, bv yF, bv yG, bv yI, bv yJ, bv yK, bv yL, bv yM, bv yN, bv yO, bv yP, bv yQ]) :: r))) prm_ (htg _ fun e he => by simp [he])) ?_)
 rintro v l' ⟨rfl, rfl⟩
 refine AU0 ?_
 refine JLs (e_alloc fun b16 => ?_)
 refine JLs (e_store 0 rfl rfl rfl (vs := enc2 to) rfl rfl rfl lE_ ?_)
 refine JL.cast (l' := (b16, isC 48 (enc2 to)) :: (kb, isC 177 [sv R, t1, t2, t3, ptr rb, iv n, iv iss]) :: (RH ++ ((b12, isC 269 [sv cl.1, sv cl.2, bv ka, bv kbb, bv kc, bv kd, bv ke, bv kf, bv kg, bv ki, bv kj, bv kk, bv kl, bv km, bv kn, bv ko, bv kp, bv kq, bv kA, bv kB, bv kC, bv kD, bv kE, bv kF, bv kG, bv kI, bv kJ, bv kK, bv kL, bv kM, bv kN, bv kO, bv kP, bv kQ, sv tr, iv st, iv en]) :: (b5, isC 201 [sv sv_.1, sv sv_.2, iv kv, .slice A1 len1 c1, .slice A2 len2 c2, sv s.1, sv s.2, iv till, iv nc]) :: (xb, isBx kb2 [ka, kbb, kc, kd, ke, kf, kg, ki, kj, kk, kl, km, kn, ko, kp, kq, kA, kB, kC, kD, kE, kF, kG, kI, kJ, kK, kL, kM, kN, kO, kP, kQ]) :: (kb2, isKy [ka, kbb, kc, kd, ke, kf, kg, ki, kj, kk, kl, km, kn, ko, kp, kq, kA, kB, kC, kD, kE, kF, kG, kI, kJ, kK, kL, kM, kN, kO, kP, kQ]) :: (b8, isC 203 [.string ByteArray.empty, .string ByteArray.empty, .string ByteArray.empty, .string ByteArray.empty, .int .i64 0, .slice none 0 0, .slice none 0 0]) :: (b7, isC 55 [bv ya, bv yb, bv yc, bv yd, bv ye, bv yf, bv yg, bv yi, bv yj, bv yk, bv yl, bv ym, bv yn, bv yo, bv yp, bv yq, bv yA, bv yB, bv yC, bv yD, bv yE, bv yF, bv yG, bv yI, bv yJ, bv yK, bv yL, bv yM, bv yN, bv yO, bv yP, bv yQ]) :: r))) rfl ?_
 refine JL.perm (l' := (b12, isC 269 [sv cl.1, sv cl.2, bv ka, bv kbb, bv kc, bv kd, bv ke, bv kf, bv kg, bv ki, bv kj, bv kk, bv kl, bv km, bv kn, bv ko, bv kp, bv kq, bv kA, bv kB, bv kC, bv kD, bv kE, bv kF, bv kG, bv kI, bv kJ, bv kK, bv kL, bv kM, bv kN, bv kO, bv kP, bv kQ, sv tr, iv st, iv en]) :: (b5, isC 201 [sv sv_.1, sv sv_.2, iv kv, .slice A1 len1 c1, .slice A2 len2 c2, sv s.1, sv s.2, iv till, iv nc]) :: (b7, isC 55 [bv ya, bv yb, bv yc, bv yd, bv ye, bv yf, bv yg, bv yi, bv yj, bv yk, bv yl, bv ym, bv yn, bv yo, bv yp, bv yq, bv yA, bv yB, bv yC, bv yD, bv yE, bv yF, bv yG, bv yI, bv yJ, bv yK, bv yL, bv yM, bv yN, bv yO, bv yP, bv yQ]) :: (b16, isC 48 (enc2 to)) :: (kb, isC 177 [sv R, t1, t2, t3, ptr rb, iv n, iv iss]) :: (xb, isBx kb2 [ka, kbb, kc, kd, ke, kf, kg, ki, kj, kk, kl, km, kn, ko, kp, kq, kA, kB, kC, kD, kE, kF, kG, kI, kJ, kK, kL, kM, kN, kO, kP, kQ]) :: (kb2, isKy [ka, kbb, kc, kd, ke, kf, kg, ki, kj, kk, kl, km, kn, ko, kp, kq, kA, kB, kC, kD, kE, kF, kG, kI, kJ, kK, kL, kM, kN, kO, kP, kQ]) :: (RH ++ ((b8, isC 203 [.string ByteArray.empty, .string ByteArray.empty, .string ByteArray.empty, .string ByteArray.empty, .int .i64 0, .slice none 0 0, .slice none 0 0]) :: r))) prm_ ?_
 refine AU2 ?_
 refine JLs (e_call rfl rfl (Tr.perm (l' := (kb, isC 177 [sv R, t1, t2, t3, ptr rb, iv n, iv iss]) :: ((b12, isC 269 [sv cl.1, sv cl.2, bv ka, bv kbb, bv kc, bv kd, bv ke, bv kf, bv kg, bv ki, bv kj, bv kk, bv kl, bv km, bv kn, bv ko, bv kp, bv kq, bv kA, bv kB, bv kC, bv kD, bv kE, bv kF, bv kG, bv kI, bv kJ, bv kK, bv kL, bv kM, bv kN, bv kO, bv kP, bv kQ, sv tr, iv st, iv en]) :: (b5, isC 201 [sv sv_.1, sv sv_.2, iv kv, .slice A1 len1 c1, .slice A2 len2 c2, sv s.1, sv s.2, iv till, iv nc]) :: (b7, isC 55 [bv ya, bv yb, bv yc, bv yd, bv ye, bv yf, bv yg, bv yi, bv yj, bv yk, bv yl, bv ym, bv yn, bv yo, bv yp, bv yq, bv yA, bv yB, bv yC, bv yD, bv yE, bv yF, bv yG, bv yI, bv yJ, bv yK, bv yL, bv yM, bv yN, bv yO, bv yP, bv yQ]) :: (b16, isC 48 (enc2 to)) :: (xb, isBx kb2 [ka, kbb, kc, kd, ke, kf, kg, ki, kj, kk, kl, km, kn, ko, kp, kq, kA, kB, kC, kD, kE, kF, kG, kI, kJ, kK, kL, kM, kN, kO, kP, kQ]) :: (kb2, isKy [ka, kbb, kc, kd, ke, kf, kg, ki, kj, kk, kl, km, kn, ko, kp, kq, kA, kB, kC, kD, kE, kF, kG, kI, kJ, kK, kL, kM, kN, kO, kP, kQ]) :: (RH ++ ((b8, isC 203 [.string ByteArray.empty, .string ByteArray.empty, .string ByteArray.empty, .string ByteArray.empty, .int .i64 0, .slice none 0 0, .slice none 0 0]) :: r)))) prm_ (hps _)) ?_)
 rintro v l' ⟨rfl, rfl⟩
 refine JL.perm (l' := (b12, isC 269 [sv cl.1, sv cl.2, bv ka, bv kbb, bv kc, bv kd, bv ke, bv kf, bv kg, bv ki, bv kj, bv kk, bv kl, bv km, bv kn, bv ko, bv kp, bv kq, bv kA, bv kB, bv kC, bv kD, bv kE, bv kF, bv kG, bv kI, bv kJ, bv kK, bv kL, bv kM, bv kN, bv kO, bv kP, bv kQ, sv tr, iv st, iv en]) :: (b5, isC 201 [sv sv_.1, sv sv_.2, iv kv, .slice A1 len1 c1, .slice A2 len2 c2, sv s.1, sv s.2, iv till, iv nc]) :: (b7, isC 55 [bv ya, bv yb, bv yc, bv yd, bv ye, bv yf, bv yg, bv yi, bv yj, bv yk, bv yl, bv ym, bv yn, bv yo, bv yp, bv yq, bv yA, bv yB, bv yC, bv yD, bv yE, bv yF, bv yG, bv yI, bv yJ, bv yK, bv yL, bv yM, bv yN, bv yO, bv yP, bv yQ]) :: (b16, isC 48 (enc2 to)) :: (kb, isC 177 [sv R, t1, t2, t3, ptr rb, iv n, iv iss]) :: (xb, isBx kb2 [ka, kbb, kc, kd, ke, kf, kg, ki, kj, kk, kl, km, kn, ko, kp, kq, kA, kB, kC, kD, kE, kF, kG, kI, kJ, kK, kL, kM, kN, kO, kP, kQ]) :: (kb2, isKy [ka, kbb, kc, kd, ke, kf, kg, ki, kj, kk, kl, km, kn, ko, kp, kq, kA, kB, kC, kD, kE, kF, kG, kI, kJ, kK, kL, kM, kN, kO, kP, kQ]) :: (RH ++ ((b8, isC 203 [.string ByteArray.empty, .string ByteArray.empty, .string ByteArray.empty, .string ByteArray.empty, .int .i64 0, .slice none 0 0, .slice none 0 0]) :: r))) prm_ ?_
 repeat (first | refine JLp (y_min rfl rfl (min_int _ _)) ?_ | refine AS4 ?_)
 refine JLp (y_build (cells := ([sv cl.1, sv cl.2, bv ya, bv yb, bv yc, bv yd, bv ye, bv yf, bv yg, bv yi, bv yj, bv yk, bv yl, bv ym, bv yn, bv yo, bv yp, bv yq, bv yA, bv yB, bv yC, bv yD, bv yE, bv yF, bv yG, bv yI, bv yJ, bv yK, bv yL, bv yM, bv yN, bv yO, bv yP, bv yQ, sv tr2, iv now, iv (min till en)]).toArray) (by kernel_rfl)) ?_
 refine JLs (e_alloc fun b18 => ?_)
 refine JLs (e_store 0 rfl rfl rfl (vs := [sv cl.1, sv cl.2, bv ya, bv yb, bv yc, bv yd, bv ye, bv yf, bv yg, bv yi, bv yj, bv yk, bv yl, bv ym, bv yn, bv yo, bv yp, bv yq, bv yA, bv yB, bv yC, bv yD, bv yE, bv yF, bv yG, bv yI, bv yJ, bv yK, bv yL, bv yM, bv yN, bv yO, bv yP, bv yQ, sv tr2, iv now, iv (min till en)]) rfl rfl rfl lE_ ?_)
 refine JL.cast (l' := (b18, isC 269 [sv cl.1, sv cl.2, bv ya, bv yb, bv yc, bv yd, bv ye, bv yf, bv yg, bv yi, bv yj, bv yk, bv yl, bv ym, bv yn, bv yo, bv yp, bv yq, bv yA, bv yB, bv yC, bv yD, bv yE, bv yF, bv yG, bv yI, bv yJ, bv yK, bv yL, bv yM, bv yN, bv yO, bv yP, bv yQ, sv tr2, iv now, iv (min till en)]) :: (b12, isC 269 [sv cl.1, sv cl.2, bv ka, bv kbb, bv kc, bv kd, bv ke, bv kf, bv kg, bv ki, bv kj, bv kk, bv kl, bv km, bv kn, bv ko, bv kp, bv kq, bv kA, bv kB, bv kC, bv kD, bv kE, bv kF, bv kG, bv kI, bv kJ, bv kK, bv kL, bv kM, bv kN, bv kO, bv kP, bv kQ, sv tr, iv st, iv en]) :: (b5, isC 201 [sv sv_.1, sv sv_.2, iv kv, .slice A1 len1 c1, .slice A2 len2 c2, sv s.1, sv s.2, iv till, iv nc]) :: (b7, isC 55 [bv ya, bv yb, bv yc, bv yd, bv ye, bv yf, bv yg, bv yi, bv yj, bv yk, bv yl, bv ym, bv yn, bv yo, bv yp, bv yq, bv yA, bv yB, bv yC, bv yD, bv yE, bv yF, bv yG, bv yI, bv yJ, bv yK, bv yL, bv yM, bv yN, bv yO, bv yP, bv yQ]) :: (b16, isC 48 (enc2 to)) :: (kb, isC 177 [sv R, t1, t2, t3, ptr rb, iv n, iv iss]) :: (xb, isBx kb2 [ka, kbb, kc, kd, ke, kf, kg, ki, kj, kk, kl, km, kn, ko, kp, kq, kA, kB, kC, kD, kE, kF, kG, kI, kJ, kK, kL, kM, kN, kO, kP, kQ]) :: (kb2, isKy [ka, kbb, kc, kd, ke, kf, kg, ki, kj, kk, kl, km, kn, ko, kp, kq, kA, kB, kC, kD, kE, kF, kG, kI, kJ, kK, kL, kM, kN, kO, kP, kQ]) :: (RH ++ ((b8, isC 203 [.string ByteArray.empty, .string ByteArray.empty, .string ByteArray.empty, .string ByteArray.empty, .int .i64 0, .slice none 0 0, .slice none 0 0]) :: r))) rfl ?_
 refine AU5 ?_
 refine JLp (y_build (cells := ([sv to.1, sv to.2, sv cl.1, sv cl.2, bv ya, bv yb, bv yc, bv yd, bv ye, bv yf, bv yg, bv yi, bv yj, bv yk, bv yl, bv ym, bv yn, bv yo, bv yp, bv yq, bv yA, bv yB, bv yC, bv yD, bv yE, bv yF, bv yG, bv yI, bv yJ, bv yK, bv yL, bv yM, bv yN, bv yO, bv yP, bv yQ, sv tr2, iv now, iv (min till en), iv nc, ptr xb, iv 8]).toArray) (by kernel_rfl)) ?_
 have hans : ([sv to.1, sv to.2, sv cl.1, sv cl.2, bv ya, bv yb, bv yc, bv yd, bv ye, bv yf, bv yg, bv yi, bv yj, bv yk, bv yl, bv ym, bv yn, bv yo, bv yp, bv yq, bv yA, bv yB, bv yC, bv yD, bv yE, bv yF, bv yG, bv yI, bv yJ, bv yK, bv yL, bv yM, bv yN, bv yO, bv yP, bv yQ, sv tr2, iv now, iv (min till en), iv nc, ptr xb, iv 8]) = ansC to ((Pa.mk cl (K d) tr2 now (min till en))) nc xb ((8 : Nat) : Int) := by unfold ansC; rw [hpc]; rfl
 rw [hans]
 refine JL.perm (l' := (kb, isC 177 [sv R, t1, t2, t3, ptr rb, iv n, iv iss]) :: (RH ++ ([(xb, isBx kb2 [ka, kbb, kc, kd, ke, kf, kg, ki, kj, kk, kl, km, kn, ko, kp, kq, kA, kB, kC, kD, kE, kF, kG, kI, kJ, kK, kL, kM, kN, kO, kP, kQ]), (kb2, isKy [ka, kbb, kc, kd, ke, kf, kg, ki, kj, kk, kl, km, kn, ko, kp, kq, kA, kB, kC, kD, kE, kF, kG, kI, kJ, kK, kL, kM, kN, kO, kP, kQ])] ++ ((b18, isC 269 [sv cl.1, sv cl.2, bv ya, bv yb, bv yc, bv yd, bv ye, bv yf, bv yg, bv yi, bv yj, bv yk, bv yl, bv ym, bv yn, bv yo, bv yp, bv yq, bv yA, bv yB, bv yC, bv yD, bv yE, bv yF, bv yG, bv yI, bv yJ, bv yK, bv yL, bv yM, bv yN, bv yO, bv yP, bv yQ, sv tr2, iv now, iv (min till en)]) :: (b12, isC 269 [sv cl.1, sv cl.2, bv ka, bv kbb, bv kc, bv kd, bv ke, bv kf, bv kg, bv ki, bv kj, bv kk, bv kl, bv km, bv kn, bv ko, bv kp, bv kq, bv kA, bv kB, bv kC, bv kD, bv kE, bv kF, bv kG, bv kI, bv kJ, bv kK, bv kL, bv kM, bv kN, bv kO, bv kP, bv kQ, sv tr, iv st, iv en]) :: (b5, isC 201 [sv sv_.1, sv sv_.2, iv kv, .slice A1 len1 c1, .slice A2 len2 c2, sv s.1, sv s.2, iv till, iv nc]) :: (b7, isC 55 [bv ya, bv yb, bv yc, bv yd, bv ye, bv yf, bv yg, bv yi, bv yj, bv yk, bv yl, bv ym, bv yn, bv yo, bv yp, bv yq, bv yA, bv yB, bv yC, bv yD, bv yE, bv yF, bv yG, bv yI, bv yJ, bv yK, bv yL, bv yM, bv yN, bv yO, bv yP, bv yQ]) :: (b16, isC 48 (enc2 to)) :: (b8, isC 203 [.string ByteArray.empty, .string ByteArray.empty, .string ByteArray.empty, .string ByteArray.empty, .int .i64 0, .slice none 0 0, .slice none 0 0]) :: r)))) prm_ ?_
 refine JLs (e_call rfl rfl (makes_ok hB hm hl2 hto hn hiss hp2 hg.2.2.2.2 (kyy := [ka, kbb, kc, kd, ke, kf, kg, ki, kj, kk, kl, km, kn, ko, kp, kq, kA, kB, kC, kD, kE, kF, kG, kI, kJ, kK, kL, kM, kN, kO, kP, kQ]) (xb := xb) (u := 8) (by decide) (BH := [(xb, isBx kb2 [ka, kbb, kc, kd, ke, kf, kg, ki, kj, kk, kl, km, kn, ko, kp, kq, kA, kB, kC, kD, kE, kF, kG, kI, kJ, kK, kL, kM, kN, kO, kP, kQ]), (kb2, isKy [ka, kbb, kc, kd, ke, kf, kg, ki, kj, kk, kl, km, kn, ko, kp, kq, kA, kB, kC, kD, kE, kF, kG, kI, kJ, kK, kL, kM, kN, kO, kP, kQ])]) (fun r' q bs v hq hb hv => BHbox rfl (by decide) r' q bs v hq hb hv)) ?_)
 rintro v l' ⟨w1, w2, le, rfl, hw3, hw4, rfl⟩
 obtain ⟨Aw, cw, rfl, hsw⟩ := id hw3
 obtain ⟨Ao, co, rfl, hso⟩ := id hw4
 refine JL.perm (l' := (b8, isC 203 [.string ByteArray.empty, .string ByteArray.empty, .string ByteArray.empty, .string ByteArray.empty, .int .i64 0, .slice none 0 0, .slice none 0 0]) :: (le ++ ((kb, isC 177 [sv R, t1, t2, t3, ptr rb, iv ((n + 2 : Nat) : Int), iv ((iss + 1 : Nat) : Int)]) :: (RH ++ ([(xb, isBx kb2 [ka, kbb, kc, kd, ke, kf, kg, ki, kj, kk, kl, km, kn, ko, kp, kq, kA, kB, kC, kD, kE, kF, kG, kI, kJ, kK, kL, kM, kN, kO, kP, kQ]), (kb2, isKy [ka, kbb, kc, kd, ke, kf, kg, ki, kj, kk, kl, km, kn, ko, kp, kq, kA, kB, kC, kD, kE, kF, kG, kI, kJ, kK, kL, kM, kN, kO, kP, kQ])] ++ ((b18, isC 269 [sv cl.1, sv cl.2, bv ya, bv yb, bv yc, bv yd, bv ye, bv yf, bv yg, bv yi, bv yj, bv yk, bv yl, bv ym, bv yn, bv yo, bv yp, bv yq, bv yA, bv yB, bv yC, bv yD, bv yE, bv yF, bv yG, bv yI, bv yJ, bv yK, bv yL, bv yM, bv yN, bv yO, bv yP, bv yQ, sv tr2, iv now, iv (min till en)]) :: (b12, isC 269 [sv cl.1, sv cl.2, bv ka, bv kbb, bv kc, bv kd, bv ke, bv kf, bv kg, bv ki, bv kj, bv kk, bv kl, bv km, bv kn, bv ko, bv kp, bv kq, bv kA, bv kB, bv kC, bv kD, bv kE, bv kF, bv kG, bv kI, bv kJ, bv kK, bv kL, bv kM, bv kN, bv kO, bv kP, bv kQ, sv tr, iv st, iv en]) :: (b5, isC 201 [sv sv_.1, sv sv_.2, iv kv, .slice A1 len1 c1, .slice A2 len2 c2, sv s.1, sv s.2, iv till, iv nc]) :: (b7, isC 55 [bv ya, bv yb, bv yc, bv yd, bv ye, bv yf, bv yg, bv yi, bv yj, bv yk, bv yl, bv ym, bv yn, bv yo, bv yp, bv yq, bv yA, bv yB, bv yC, bv yD, bv yE, bv yF, bv yG, bv yI, bv yJ, bv yK, bv yL, bv yM, bv yN, bv yO, bv yP, bv yQ]) :: (b16, isC 48 (enc2 to)) :: r)))))) prm_ ?_
 refine AU0 ?_
 refine JLs (e_store 0 rfl rfl rfl (vs := (Rp.mk cl ⟨to, it2.kv, Se.sealB (K it2.k) 2 (BitVec.ofNat 64 (n + 1)) ((Pa.mk cl (K d) tr2 now (min till en))).byts⟩ []).cells _ _) rfl rfl rfl lE_ ?_)
 refine AU0 ?_
 refine JC.ret (ret_cell2 rfl rfl 0 rfl rfl rfl (by conv => lhs; whnf) (l' := le ++ ((kb, isC 177 [sv R, t1, t2, t3, ptr rb, iv ((n + 2 : Nat) : Int), iv ((iss + 1 : Nat) : Int)]) :: (RH ++ r))) ?_ ⟨_, _, le, rfl, hw3, hw4, rfl⟩)
 exact List.Sublist.cons _ (List.Sublist.append_left (List.Sublist.cons_cons _ (List.Sublist.append_left (List.sublist_append_right [_, _, _, _, _, _, _] r) _)) _)
end Go.Proofs.YtbalcgjphkdecaaGreatDoor.To
namespace Go.Proofs.YtbalcgjphkdecaaGreatDoor.To
open Go.RowKit Go.Lg
set_option maxRecDepth 100000
theorem okPb_spec {p : P2} (h : okPb p = true) : okP p := by
 simp only [okPb, Bool.and_eq_true] at h
 exact ⟨h.1.1, h.1.2, h.2⟩
theorem tmb_spec {n : Int} (h : tmb n = true) : tm n := by
 simp only [tmb, Bool.and_eq_true, decide_eq_true_eq] at h
 exact h
theorem okTr_spec {l : List S} (h : okTr l = true) : okT (cat l) := by
 simp only [okTr, Bool.and_eq_true, decide_eq_true_eq, List.all_eq_true] at h
 exact ⟨h.1, fun b hb => h.2 b hb⟩
theorem nb_spec {n : Nat} (h : nb n = true) : n ≤ 1000000 := of_decide_eq_true h
theorem PaS.okb_spec {p : PaS} (h : p.okb = true) : p.pa.good := by
 simp only [PaS.okb, Bool.and_eq_true] at h
 exact ⟨okPb_spec h.1.1.1, K_len _, okTr_spec h.1.1.2, tmb_spec h.1.2, tmb_spec h.2⟩
theorem sealB_good {kk bs : Bs} {u : Nat} {n : BitVec 64} (h : bs.length ≤ 700) : okBlob (Se.sealB kk u n bs) := by
 have := Se.sealB_len kk u n bs
 exact ⟨by omega, by omega⟩
theorem TkS.okb_spec {t : TkS} (h : t.okb = true) : t.tk.good ∧ t.n ≤ 1000000 ∧ t.pa.pa.good ∧ okP t.sv_ := by
 simp only [TkS.okb, Bool.and_eq_true, decide_eq_true_eq] at h
 obtain ⟨⟨⟨⟨h1, h2⟩, h3⟩, h4⟩, h5⟩ := h
 have hp := PaS.okb_spec h5
 have hb := sealB_good (kk := K t.k) (u := 2) (n := BitVec.ofNat 64 t.n) (Pa.byts_le hp)
 refine ⟨⟨okPb_spec h1, ?_, ?_, hb.1, hb.2⟩, nb_spec h4, hp, okPb_spec h1⟩
 ·show (1 : Int) ≤ (t.kv : Int)
  omega
 ·show (t.kv : Int) ≤ 255
  omega
theorem AuS.okb_spec {x : AuS} (h : x.okb = true) : okBlob x.b ∧ x.u ≤ 255 ∧ x.n ≤ 1000000 ∧ x.a.good := by
 simp only [AuS.okb, Bool.and_eq_true, decide_eq_true_eq] at h
 obtain ⟨⟨⟨⟨h1, h2⟩, h3⟩, h4⟩, h5⟩ := h
 have hg : x.a.good := ⟨okPb_spec h3, tmb_spec h4, tmb_spec h5⟩
 exact ⟨sealB_good (Au.byts_le hg), h1, nb_spec h2, hg⟩
theorem RpS.okb_spec {x : RpS} (h : x.okb = true) : okBlob x.b ∧ x.u ≤ 255 ∧ x.n ≤ 1000000 ∧ x.rp.good := by
 simp only [RpS.okb, Bool.and_eq_true, decide_eq_true_eq] at h
 obtain ⟨⟨⟨⟨⟨h1, h2⟩, h3⟩, h4⟩, h5⟩, h6⟩ := h
 have hg : x.rp.good := ⟨K_len _, okPb_spec h3, tmb_spec h4, tmb_spec h5, tmb_spec h6⟩
 exact ⟨sealB_good (RP.byts_le hg), h1, nb_spec h2, hg⟩
theorem MS.okb_spec {m : MS} (h : m.okb = true) : m.mg.good := by
 cases m with
 | aq q =>
  simp only [MS.okb, Bool.and_eq_true] at h
  exact ⟨okPb_spec h.1.1.1, okPb_spec h.1.1.2, tmb_spec h.1.2, tmb_spec h.2⟩
 | tg tk au s till nc =>
  simp only [MS.okb, Bool.and_eq_true] at h
  exact ⟨(TkS.okb_spec h.1.1.1.1).1, (AuS.okb_spec h.1.1.1.2).1, okPb_spec h.1.1.2, tmb_spec h.1.2, tmb_spec h.2⟩
 | rep cl tk rp =>
  simp only [MS.okb, Bool.and_eq_true] at h
  exact ⟨okPb_spec h.1.1, (TkS.okb_spec h.1.2).1, (RpS.okb_spec h.2).1⟩
 | ap tk au =>
  simp only [MS.okb, Bool.and_eq_true] at h
  exact ⟨(TkS.okb_spec h.1).1, (AuS.okb_spec h.2).1⟩
theorem makesM_spec {k k' : KdcS} {to : P2} {pa : PaS} {nc : Int} {bk u : Nat} {m' : MS} (h : makesM k to pa nc bk u = some (k', m')) : ∃ i it, lastAt (isP to) k.its 0 = some (i, it) ∧ pa.okb = true ∧ okPb to = true ∧ tmb nc = true ∧ k.n ≤ 1000000 ∧ k.iss ≤ 1000000 ∧
  k' = ⟨k.r, k.n + 2, k.iss + 1, k.its⟩ ∧ m' = .rep pa.cl ⟨to, it.kv, it.k, k.n + 1, pa⟩ ⟨bk, u, k.n + 2, pa.ses, to, pa.st, pa.en, nc⟩ ∧ m'.okb = true := by
 unfold makesM at h
 split at h
 ·rename_i i it hl
  split at h
  ·rename_i hc
   simp only [Bool.and_eq_true] at hc
   obtain ⟨⟨⟨⟨⟨⟨h1, h2⟩, h3⟩, h4⟩, h5⟩, h6⟩, h7⟩ := hc
   cases h
   exact ⟨i, it, hl, h1, h2, h3, nb_spec h4, nb_spec h5, rfl, rfl, h7⟩
  ·cases h
 ·cases h
def kdcE (kb rb : Nat) (t1 t2 t3 : Value) (k : KdcS) : Ent := (kb, isC 177 [sv k.r, t1, t2, t3, ptr rb, iv k.n, iv k.iss])
attribute [local irreducible] JC JL JD RN RT Eff Yld YldIf Tr partsL okR splitL wordB joinD fit betweenS laidS viaS De.wrapB De.num De.clampI K Se.sealB Pa.byts Au.byts RP.byts Mg.byts Se.inc nextS
set_option maxHeartbeats 1000000 in
theorem HandleA_ok {k k' : KdcS} {q : AsQ} {m' : MS} {now : Int} {d : Nat} (h : asM k q now d = some (k', m')) {kb rb : Nat} {t1 t2 t3 : Value} {bl : List RB} {RH r : List Ent} {W : World} (hB : RingB rb bl RH) (hbl : bl.map RB.it = k.its) (hm : bl.length ≤ 1000) {v : Value} (hv : BV W r v (Mg.aq q).byts) :
  Tr Pg 94 #[ptr kb, v, iv now, .agg ((K d).map bv).toArray] W (kdcE kb rb t1 t2 t3 k :: (RH ++ r)) fun v l' => ∃ le, OwnB v m'.mg.byts le ∧ l' = le ++ (kdcE kb rb t1 t2 t3 k' :: (RH ++ r)) := by
 unfold asM at h
 split at h
 case h_2 => cases h
 rename_i i1 it1 p2 hl1 hl2
 obtain ⟨i2, it2⟩ := p2
 split at h
 case isFalse => cases h
 rename_i hc
 simp only [Bool.and_eq_true, decide_eq_true_eq] at hc
 obtain ⟨⟨⟨⟨⟨c1', c2'⟩, c3⟩, c4⟩, c5⟩, c6⟩ := hc
 obtain ⟨i3, it3, hl3, m1, m2, m3, m4, m5, rfl, rfl, m6⟩ := makesM_spec h
 have hg : (Mg.aq q).good := MS.okb_spec (m := .aq q) c1'
 rw [hl2] at hl3
 cases hl3
 rw [← hbl] at hl1 hl2
 have hpg := PaS.okb_spec m1
 obtain ⟨ka, kbb, kc, kd, ke, kf, kg, ki, kj, kk, kl, km, kn, ko, kp, kq, kA, kB, kC, kD, kE, kF, kG, kI, kJ, kK, kL, kM, kN, kO, kP, kQ, hk⟩ := len32 (K_len d)
 refine Tr.of_code (args := [_, _, _, _]) Tryz.func94 rfl Tryz.ntmps94 lE_ ?_
 have hkk : ((K d).map bv).toArray = #[bv ka, bv kbb, bv kc, bv kd, bv ke, bv kf, bv kg, bv ki, bv kj, bv kk, bv kl, bv km, bv kn, bv ko, bv kp, bv kq, bv kA, bv kB, bv kC, bv kD, bv kE, bv kF, bv kG, bv kI, bv kJ, bv kK, bv kL, bv kM, bv kN, bv kO, bv kP, bv kQ] := by rw [hk]; rfl
 rw [hkk]
 refine AU0 ?_
 refine JLs (e_box (cs := [bv ka, bv kbb, bv kc, bv kd, bv ke, bv kf, bv kg, bv ki, bv kj, bv kk, bv kl, bv km, bv kn, bv ko, bv kp, bv kq, bv kA, bv kB, bv kC, bv kD, bv kE, bv kF, bv kG, bv kI, bv kJ, bv kK, bv kL, bv kM, bv kN, bv kO, bv kP, bv kQ]) rfl rfl fun b7 => ?_)
 refine AU0 ?_
 refine JLs (e_call rfl rfl (Decode_ok hg (hv.mono fun e he => by simp [he])) ?_)
 rintro v l' ⟨w1, w2, le0, rfl, hm0, rfl⟩
 refine AU0 ?_
 refine JLs (e_alloc fun b9 => ?_)
 refine JLs (e_store 0 rfl rfl rfl (vs := (Mg.aq q).cells w1 w2) rfl rfl (by obtain ⟨⟨_, _, rfl, -⟩, ⟨_, _, rfl, -⟩⟩ := hm0; rfl) lE_ ?_)
 refine JL.cast (l' := (b9, isC 207 ((Mg.aq q).cells w1 w2)) :: (le0 ++ ((b7, isC 55 [bv ka, bv kbb, bv kc, bv kd, bv ke, bv kf, bv kg, bv ki, bv kj, bv kk, bv kl, bv km, bv kn, bv ko, bv kp, bv kq, bv kA, bv kB, bv kC, bv kD, bv kE, bv kF, bv kG, bv kI, bv kJ, bv kK, bv kL, bv kM, bv kN, bv kO, bv kP, bv kQ]) :: kdcE kb rb t1 t2 t3 k :: (RH ++ r)))) rfl ?_
 refine JL.perm (l' := (b7, isC 55 [bv ka, bv kbb, bv kc, bv kd, bv ke, bv kf, bv kg, bv ki, bv kj, bv kk, bv kl, bv km, bv kn, bv ko, bv kp, bv kq, bv kA, bv kB, bv kC, bv kD, bv kE, bv kF, bv kG, bv kI, bv kJ, bv kK, bv kL, bv kM, bv kN, bv kO, bv kP, bv kQ]) :: (b9, isC 207 ((Mg.aq q).cells w1 w2)) :: kdcE kb rb t1 t2 t3 k :: (RH ++ (le0 ++ r))) prm_ ?_
 refine AU2 ?_
 refine JLp (y_build (cells := ([iv 3, .string ByteArray.empty, .string ByteArray.empty, .string ByteArray.empty, .string ByteArray.empty, .int .i64 0, .int .i64 0, .string ByteArray.empty, .string ByteArray.empty, .int .i64 0, .slice none 0 0, .slice none 0 0, .string ByteArray.empty, .string ByteArray.empty, .int .i64 0, .int .i64 0, .string ByteArray.empty, .string ByteArray.empty, .string ByteArray.empty, .string ByteArray.empty, .int .i64 0, .slice none 0 0, .slice none 0 0, .string ByteArray.empty, .string ByteArray.empty, .int .i64 0, .slice none 0 0, .slice none 0 0, .int .i64 0, .int .i64 0]).toArray) (by kernel_rfl)) ?_
 refine JLs (e_alloc fun b11 => ?_)
 refine JLs (e_store 0 rfl rfl rfl (vs := [iv 3, .string ByteArray.empty, .string ByteArray.empty, .string ByteArray.empty, .string ByteArray.empty, .int .i64 0, .int .i64 0, .string ByteArray.empty, .string ByteArray.empty, .int .i64 0, .slice none 0 0, .slice none 0 0, .string ByteArray.empty, .string ByteArray.empty, .int .i64 0, .int .i64 0, .string ByteArray.empty, .string ByteArray.empty, .string ByteArray.empty, .string ByteArray.empty, .int .i64 0, .slice none 0 0, .slice none 0 0, .string ByteArray.empty, .string ByteArray.empty, .int .i64 0, .slice none 0 0, .slice none 0 0, .int .i64 0, .int .i64 0]) rfl rfl rfl lE_ ?_)
 refine JL.cast (l' := (b11, isC 207 [iv 3, .string ByteArray.empty, .string ByteArray.empty, .string ByteArray.empty, .string ByteArray.empty, .int .i64 0, .int .i64 0, .string ByteArray.empty, .string ByteArray.empty, .int .i64 0, .slice none 0 0, .slice none 0 0, .string ByteArray.empty, .string ByteArray.empty, .int .i64 0, .int .i64 0, .string ByteArray.empty, .string ByteArray.empty, .string ByteArray.empty, .string ByteArray.empty, .int .i64 0, .slice none 0 0, .slice none 0 0, .string ByteArray.empty, .string ByteArray.empty, .int .i64 0, .slice none 0 0, .slice none 0 0, .int .i64 0, .int .i64 0]) :: (b7, isC 55 [bv ka, bv kbb, bv kc, bv kd, bv ke, bv kf, bv kg, bv ki, bv kj, bv kk, bv kl, bv km, bv kn, bv ko, bv kp, bv kq, bv kA, bv kB, bv kC, bv kD, bv kE, bv kF, bv kG, bv kI, bv kJ, bv kK, bv kL, bv kM, bv kN, bv kO, bv kP, bv kQ]) :: (b9, isC 207 ((Mg.aq q).cells w1 w2)) :: kdcE kb rb t1 t2 t3 k :: (RH ++ (le0 ++ r))) rfl ?_
 refine AU3 ?_
 refine JLs (e_call (vs := [ptr kb, _, iv now, .agg ((K d).map bv).toArray]) rfl (by rw [hkk]; rfl) (Tr.perm (l' := kdcE kb rb t1 t2 t3 k :: (RH ++ ((b11, isC 207 [iv 3, .string ByteArray.empty, .string ByteArray.empty, .string ByteArray.empty, .string ByteArray.empty, .int .i64 0, .int .i64 0, .string ByteArray.empty, .string ByteArray.empty, .int .i64 0, .slice none 0 0, .slice none 0 0, .string ByteArray.empty, .string ByteArray.empty, .int .i64 0, .int .i64 0, .string ByteArray.empty, .string ByteArray.empty, .string ByteArray.empty, .string ByteArray.empty, .int .i64 0, .slice none 0 0, .slice none 0 0, .string ByteArray.empty, .string ByteArray.empty, .int .i64 0, .slice none 0 0, .slice none 0 0, .int .i64 0, .int .i64 0]) :: (b7, isC 55 [bv ka, bv kbb, bv kc, bv kd, bv ke, bv kf, bv kg, bv ki, bv kj, bv kk, bv kl, bv km, bv kn, bv ko, bv kp, bv kq, bv kA, bv kB, bv kC, bv kD, bv kE, bv kF, bv kG, bv kI, bv kJ, bv kK, bv kL, bv kM, bv kN, bv kO, bv kP, bv kQ]) :: (b9, isC 207 ((Mg.aq q).cells w1 w2)) :: (le0 ++ r)))) prm_ (As_ok hB hm hg (tmb_spec c2') hl1 hl2 c3 c4 c6 c5 d m4 m5 hpg)) ?_)
 rintro v l' ⟨w3, w4, le, rfl, hw3, hw4, rfl⟩
 refine JL.perm (l' := (b11, isC 207 [iv 3, .string ByteArray.empty, .string ByteArray.empty, .string ByteArray.empty, .string ByteArray.empty, .int .i64 0, .int .i64 0, .string ByteArray.empty, .string ByteArray.empty, .int .i64 0, .slice none 0 0, .slice none 0 0, .string ByteArray.empty, .string ByteArray.empty, .int .i64 0, .int .i64 0, .string ByteArray.empty, .string ByteArray.empty, .string ByteArray.empty, .string ByteArray.empty, .int .i64 0, .slice none 0 0, .slice none 0 0, .string ByteArray.empty, .string ByteArray.empty, .int .i64 0, .slice none 0 0, .slice none 0 0, .int .i64 0, .int .i64 0]) :: (b9, isC 207 ((Mg.aq q).cells w1 w2)) :: (kdcE kb rb t1 t2 t3 ⟨k.r, k.n + 2, k.iss + 1, k.its⟩) :: (RH ++ (le ++ ((b7, isC 55 [bv ka, bv kbb, bv kc, bv kd, bv ke, bv kf, bv kg, bv ki, bv kj, bv kk, bv kl, bv km, bv kn, bv ko, bv kp, bv kq, bv kA, bv kB, bv kC, bv kD, bv kE, bv kF, bv kG, bv kI, bv kJ, bv kK, bv kL, bv kM, bv kN, bv kO, bv kP, bv kQ]) :: (le0 ++ r))))) (by unfold kdcE; exact prm_) ?_
 refine AU0 ?_
 refine JLs (e_store 0 rfl rfl rfl (vs := [sv q.cl.1, sv q.cl.2, sv q.sv_.1, sv q.sv_.2, iv it2.kv, w3, w4]) rfl rfl (by obtain ⟨_, _, rfl, -⟩ := hw3; obtain ⟨_, _, rfl, -⟩ := hw4; rfl) lE_ ?_)
 refine JL.cast (l' := (b11, isC 207 ((Mg.rep ⟨q.cl, ⟨q.sv_, it2.kv, Se.sealB (K it2.k) 2 (BitVec.ofNat 64 (k.n + 1)) (Pa.mk q.cl (K d) [] now (min q.till (now + 1000))).byts⟩, Se.sealB (K it1.k) 3 (BitVec.ofNat 64 (k.n + 2)) (RP.mk (K d) q.sv_ now (min q.till (now + 1000)) q.nc).byts⟩).cells w3 w4)) :: (b9, isC 207 ((Mg.aq q).cells w1 w2)) :: (kdcE kb rb t1 t2 t3 ⟨k.r, k.n + 2, k.iss + 1, k.its⟩) :: (RH ++ (le ++ ((b7, isC 55 [bv ka, bv kbb, bv kc, bv kd, bv ke, bv kf, bv kg, bv ki, bv kj, bv kk, bv kl, bv km, bv kn, bv ko, bv kp, bv kq, bv kA, bv kB, bv kC, bv kD, bv kE, bv kF, bv kG, bv kI, bv kJ, bv kK, bv kL, bv kM, bv kN, bv kO, bv kP, bv kQ]) :: (le0 ++ r))))) rfl ?_
 refine AU2 ?_
 refine JLs (e_call rfl rfl (Encode_mg (m := .rep ⟨q.cl, ⟨q.sv_, it2.kv, Se.sealB (K it2.k) 2 (BitVec.ofNat 64 (k.n + 1)) (Pa.mk q.cl (K d) [] now (min q.till (now + 1000))).byts⟩, Se.sealB (K it1.k) 3 (BitVec.ofNat 64 (k.n + 2)) (RP.mk (K d) q.sv_ now (min q.till (now + 1000)) q.nc).byts⟩) (MS.okb_spec m6) ⟨hw3.mono fun e he => by simp [he], hw4.mono fun e he => by simp [he]⟩) ?_)
 rintro v l' ⟨v5, le5, rfl, ho5, rfl⟩
 refine AU0 ?_
 refine JC.sub (l' := le5 ++ (kdcE kb rb t1 t2 t3 ⟨k.r, k.n + 2, k.iss + 1, k.its⟩ :: (RH ++ r))) (List.Sublist.append_left (List.Sublist.cons _ (List.Sublist.cons _ (List.Sublist.cons_cons _ (List.Sublist.append_left (((List.sublist_append_right le0 r).trans (List.sublist_cons_self _ _)).trans (List.sublist_append_right le _)) _)))) _) ?_
 exact JC.ret (RT.one rfl rfl (by conv => lhs; whnf) ⟨le5, ho5, rfl⟩)
end Go.Proofs.YtbalcgjphkdecaaGreatDoor.To
namespace Go.Proofs.YtbalcgjphkdecaaGreatDoor.Ca
open Go.RowKit Go.Lg
set_option maxRecDepth 100000
attribute [local irreducible] JC JL JD RN RT Eff Yld YldIf Tr
instance : KeyT Pg 48 := ⟨⟨_, _, rfl, rfl, rfl, by decide, by decide, rfl, rfl, rfl, rfl, by kernel_rfl⟩⟩
def Dv (W : World) (r : List Ent) (d : Value) (bs : List UInt8) : Prop := ∃ A c, d = .slice A bs.length c ∧ bs.length ≤ 70368744177664 ∧ (A = none → bs.length = 0 ∧ c = 0) ∧ Src W r A (bs.map bv)
theorem Dv.mono {W : World} {r r' : List Ent} {d : Value} {bs : List UInt8} (h : Dv W r d bs) (hr : ∀ e ∈ r, e ∈ r') : Dv W r' d bs := by
 obtain ⟨A, c, h1, h2, h3, h4⟩ := h
 exact ⟨A, c, h1, h2, h3, h4.mono hr⟩
theorem Dv.own {W : World} {le : List Ent} {v : Value} {bs : List UInt8} {e : TypeId} (h : Lg.Own e 1 v bs.length (bs.map bv) le) (hm : bs.length ≤ 70368744177664) : Dv W le v bs := by
 obtain ⟨A, c, h1, h2, h3⟩ := h.src (W := W)
 refine ⟨A, c, h1, hm, fun hA => ?_, h2⟩
 subst hA
 rcases h.2 with ⟨q1, q2, _⟩ | ⟨g, cap, q1, _⟩
 ·rw [h1] at q1
  injection q1 with _ _ q3
  exact ⟨q2, q3⟩
 ·rw [h1] at q1
  injection q1 with q2
  cases q2
theorem Dv.slice {W : World} {r : List Ent} {d : Value} {bs : List UInt8} (h : Dv W r d bs) : ∃ A n c, d = .slice A n c := by
 obtain ⟨A, c, h, _⟩ := h
 exact ⟨A, _, c, h⟩
structure Crd where
 a : ByteArray
 b : ByteArray
 kv : Int
 s : Nat → Int
 en : Int
 bs : List UInt8
def Crd.cells (c : Crd) (d : Value) : List Value := [.string c.a, .string c.b, .int .i64 c.kv, d, .int .u8 (c.s 0), .int .u8 (c.s 1), .int .u8 (c.s 2), .int .u8 (c.s 3), .int .u8 (c.s 4), .int .u8 (c.s 5), .int .u8 (c.s 6), .int .u8 (c.s 7), .int .u8 (c.s 8), .int .u8 (c.s 9), .int .u8 (c.s 10), .int .u8 (c.s 11), .int .u8 (c.s 12), .int .u8 (c.s 13), .int .u8 (c.s 14), .int .u8 (c.s 15), .int .u8 (c.s 16), .int .u8 (c.s 17), .int .u8 (c.s 18), .int .u8 (c.s 19), .int .u8 (c.s 20), .int .u8 (c.s 21), .int .u8 (c.s 22), .int .u8 (c.s 23), .int .u8 (c.s 24), .int .u8 (c.s 25), .int .u8 (c.s 26), .int .u8 (c.s 27), .int .u8 (c.s 28), .int .u8 (c.s 29), .int .u8 (c.s 30), .int .u8 (c.s 31), .int .i64 c.en]
def ptr (b : Nat) : Value := .pointer (some ⟨b, 0, none⟩)
theorem copied_ok {c : Crd} {d : Value} {W : World} {r : List Ent} (h : Dv W r d c.bs) :
  Tr Pg 115 #[.agg (c.cells d).toArray] W r fun v l' => ∃ (v' : Value) (le : List Ent), v = .agg (c.cells v').toArray ∧ Lg.Own 5 1 v' c.bs.length (c.bs.map bv) le ∧ l' = le ++ r := by
 obtain ⟨A, cc, h1, h2, h3, h4⟩ := h
 subst h1
 refine Tr.of_code (args := [_]) Tryz.func115 rfl Tryz.ntmps115 lE_ ?_
 refine AU0 ?_
 refine JLs (e_box rfl rfl fun b => ?_)
 refine JLs (e_alloc fun b2 => ?_)
 refine AU2 ?_
 refine JLs (e_call rfl rfl (Clone_ok rfl h2 (h4.mono fun e he => List.mem_cons_of_mem _ (List.mem_cons_of_mem _ he)) h3) ?_)
 rintro v l' ⟨le, ho, rfl, hn⟩
 obtain ⟨A', c', rfl, -, -⟩ := ho.src (W := W)
 refine JL.perm (l' := _ :: _ :: (le ++ r)) (perm_mid [_, _] le r).symm ?_
 refine AU2 ?_
 refine JLs (e_store 1 rfl rfl (by conv => lhs; whnf) (vs := [.slice A' c.bs.length c']) rfl rfl rfl lE_ ?_)
 refine AU2 ?_
 refine JLs (e_store 0 rfl rfl rfl (vs := c.cells (.slice A' c.bs.length c')) rfl rfl rfl lE_ ?_)
 refine AU2 ?_
 refine JC.ret (ret_cell rfl rfl 0 rfl rfl rfl (List.sublist_append_right [_, _] _) ?_)
 exact ⟨.slice A' c.bs.length c', le, rfl, ho, rfl⟩
end Go.Proofs.YtbalcgjphkdecaaGreatDoor.Ca
namespace Go.Proofs.YtbalcgjphkdecaaGreatDoor.Ca
open Go.RowKit Go.Lg
set_option maxRecDepth 100000
attribute [local irreducible] JC JL JD RN RT Eff Yld YldIf Tr
structure Qe where
 a : ByteArray
 b : ByteArray
 c : Crd
 d : Value
 t : Nat
def Qe.ke (q : Qe) : KE := ⟨q.a, q.b, .agg (q.c.cells q.d).toArray, q.t⟩
def qmp (Q : List Qe) (clock : Nat) : Mp := ⟨Q.map Qe.ke, clock⟩
theorem ended_ok {a b : ByteArray} {c : Crd} {A : Option Addr} {n cc now : Nat} {z : Int} {nb : Nat} {W : World} {r : List Ent} :
  Tr Pg 133 #[key a b, .agg (c.cells (.slice A n cc)).toArray, ptr nb] W ((nb, isC 3 [.int .i64 z]) :: r) fun v l' => v = .bool (decide (c.en < z)) ∧ l' = (nb, isC 3 [.int .i64 z]) :: r := by
 refine Tr.of_code (args := [_, _, _]) Tryz.func133 rfl Tryz.ntmps133 lE_ ?_
 refine AU0 ?_
 refine JLs (e_box (cs := [.string a, .string b]) rfl rfl fun b1 => ?_)
 refine JLs (e_box rfl rfl fun b2 => ?_)
 by_cases h : c.en < z
 ·rw [decide_eq_true h]
  refine AU3 ?_
  exact JC.sub (List.sublist_append_right [_, _] _) (JC.ret (RT.one rfl rfl (by conv => lhs; whnf) ⟨rfl, rfl⟩))
 ·rw [decide_eq_false h]
  refine AU3 ?_
  exact JC.sub (List.sublist_append_right [_, _] _) (JC.ret (RT.one rfl rfl (by conv => lhs; whnf) ⟨rfl, rfl⟩))
theorem kfind_at : ∀ (xs : List KE) (j i : Nat) (x : KE), xs[j]? = some x → xs.Pairwise (fun y z => ¬ (y.a = z.a ∧ y.b = z.b)) → kfind x.a x.b xs i = some (i + j, x.v)
 | [], _, _, _, h, _ => by simp at h
 | y :: xs, 0, i, x, h, _ => by
  obtain rfl : y = x := by simpa using h
  have hr : ∀ s : ByteArray, (s == s) = true := fun s => (MapKept.bytes_beq _ _).2 rfl
  simp [kfind, KE.is, hr]
 | y :: xs, j + 1, i, x, h, hp => by
  have hx : xs[j]? = some x := by simpa using h
  rw [List.pairwise_cons] at hp
  have hne := hp.1 x (List.mem_of_getElem? hx)
  have hk : KE.is x.a x.b y = false := by
   cases hc : KE.is x.a x.b y with
   | false => rfl
   | true =>
    simp only [KE.is, Bool.and_eq_true] at hc
    exact absurd ⟨((MapKept.bytes_beq _ _).1 hc.1).symm, ((MapKept.bytes_beq _ _).1 hc.2).symm⟩ hne
  rw [kfind, hk]
  simp only [Bool.false_eq_true, if_false]
  rw [kfind_at xs j (i + 1) x hx hp.2, show i + 1 + j = i + (j + 1) from by omega]
theorem countP_lt {α : Type} {p q : α → Bool} : ∀ (l : List α), (∀ x ∈ l, p x = true → q x = true) → (∃ y ∈ l, q y = true ∧ p y = false) → l.countP p < l.countP q
 | [], _, h => by simp at h
 | x :: l, h1, h2 => by
  have hle : l.countP p ≤ l.countP q := List.countP_mono_left fun y hy => h1 y (List.mem_cons_of_mem _ hy)
  obtain ⟨y, hy, hq, hp⟩ := h2
  rw [List.countP_cons, List.countP_cons]
  rcases List.mem_cons.1 hy with rfl | hy
  ·simp [hq, hp]; omega
  ·have := countP_lt l (fun z hz => h1 z (List.mem_cons_of_mem _ hz)) ⟨y, hy, hq, hp⟩
   by_cases hpx : p x = true
   ·have := h1 x (List.mem_cons_self ..) hpx
    simp [hpx, this]; omega
   ·simp [hpx]; omega
def Qok (Q : List Qe) (clock : Nat) : Prop := (∀ q ∈ Q, q.t < clock) ∧ (Q.map (·.t)).Nodup ∧ Q.Pairwise (fun y z => ¬ (y.a = z.a ∧ y.b = z.b)) ∧ ∀ q ∈ Q, ∃ A n c, q.d = .slice A n c
theorem Qok.sub {Q Q' : List Qe} {clock : Nat} (h : Qok Q clock) (hs : Q'.Sublist Q) : Qok Q' clock :=
 ⟨fun q hq => h.1 q (hs.subset hq), h.2.1.sublist (hs.map _), h.2.2.1.sublist hs, fun q hq => h.2.2.2 q (hs.subset hq)⟩
def keep (z : Int) (q : Qe) : Bool := decide (z ≤ q.c.en)
theorem eq_of_stamp {Q : List Qe} (h : (Q.map (·.t)).Nodup) {x y : Qe} (hx : x ∈ Q) (hy : y ∈ Q) (he : x.t = y.t) : x = y := by
 induction Q with
 | nil => simp at hx
 | cons q Q ih =>
  simp only [List.map_cons, List.nodup_cons] at h
  rcases List.mem_cons.1 hx with hx' | hx'
  ·rcases List.mem_cons.1 hy with hy' | hy'
   ·rw [hx', hy']
   ·exact absurd (by rw [← hx', he]; exact List.mem_map_of_mem hy') h.1
  ·rcases List.mem_cons.1 hy with hy' | hy'
   ·exact absurd (by rw [← hy', ← he]; exact List.mem_map_of_mem hx') h.1
   ·exact ih h.2 hx' hy'
set_option maxHeartbeats 2000000 in
/-- maps.DeleteFunc with Put's test: what has ended is gone; the others stay as they stood. -/
theorem DeleteFunc_ok {Q : List Qe} {clock mb nb : Nat} {z : Int} {W : World} {r : List Ent} (hQ : Qok Q clock) :
  Tr Pg 132 #[.map (some mb), .func (.func 133) #[] #[ptr nb]] W ((mb, isMp (qmp Q clock)) :: (nb, isC 3 [.int .i64 z]) :: r) fun v l' => l' = (mb, isMp (qmp (Q.filter (keep z)) clock)) :: (nb, isC 3 [.int .i64 z]) :: r := by
 refine Tr.of_code (args := [_, _]) Tryz.func132 rfl Tryz.ntmps132 lE_ ?_
 refine AU0 ?_
 refine JLs (e_range 0 rfl rfl fun it => ?_)
 refine AU0 ?_
 refine JC.loop (fun m f l => ∃ (Q' : List Qe) (seen : List Nat) (last : Nat), FrOk f [(0, .map (some mb)), (1, .func (.func 133) #[] #[ptr nb]), (7, ptr it)] ∧ Q'.Sublist Q ∧ Q'.filter (keep z) = Q.filter (keep z) ∧
  (∀ q ∈ Q', q.t ∈ seen → keep z q = true) ∧ clock ≤ last ∧ m = Q'.countP (fun q => !seen.contains q.t) ∧
  l = (it, isIt mb clock seen last) :: (mb, isMp (qmp Q' clock)) :: (nb, isC 3 [.int .i64 z]) :: r) (Q.countP fun q => !([] : List Nat).contains q.t) ?_ ?_
 ·exact ⟨Q, [], clock, ⟨rfl, rfl, rfl, trivial⟩, List.Sublist.refl _, rfl, fun q _ h => by simp at h, Nat.le_refl _, rfl, rfl⟩
 rintro m f l ⟨Q', seen, last, hf, hsub, hfil, hkeep, hlast, rfl, rfl⟩
 refine JC.frame _ hf fun f' => ?_
 have hok := hQ.sub hsub
 refine AU0 ?_
 refine JLs (e_next 0 1 rfl rfl rfl (fun q hq => by obtain ⟨x, hx, rfl⟩ := List.mem_map.1 hq; exact hok.1 x hx) hlast (fun hall => ?_) fun q hq hns => ?_)
 ·have hall' : Q'.filter (keep z) = Q' := List.filter_eq_self.2 fun x hx => hkeep x hx (hall x.ke (List.mem_map_of_mem hx))
  refine AU0 ?_
  refine RN.sub (List.sublist_cons_self _ _) (RN.none rfl ?_)
  rw [← hfil, hall']
 ·obtain ⟨x, hx, rfl⟩ := List.mem_map.1 hq
  obtain ⟨A, n, cc, hd⟩ := hok.2.2.2 x hx
  obtain ⟨j, hj⟩ := List.getElem?_of_mem hx
  have hjl : j < Q'.length := (List.getElem?_eq_some_iff.1 hj).1
  have hdel : (Q'.map Qe.ke).eraseIdx j = (Q'.eraseIdx j).map Qe.ke := by simp [List.eraseIdx_eq_take_drop_succ, List.map_take, List.map_drop]
  have hkf : kfind x.ke.a x.ke.b (qmp Q' clock).es 0 = some (0 + j, x.ke.v) := kfind_at _ j 0 x.ke (by simp [qmp, hj]) (by
   simp only [qmp, List.pairwise_map]
   exact hok.2.2.1)
  rw [Nat.zero_add] at hkf
  have hnx : x.t ∉ seen := hns
  have hlt : Q'.countP (fun q => !(seen ++ [x.t]).contains q.t) < Q'.countP (fun q => !seen.contains q.t) :=
   countP_lt Q' (fun y _ hy => by simp at hy ⊢; exact hy.1) ⟨x, hx, by simpa using hnx, by simp⟩
  refine AU0 ?_
  refine JLs (e_entry (last := 0) (q := x.ke) 0 1 rfl rfl rfl hq (by simpa [qmp, Function.comp_def, Qe.ke] using hok.2.1) ?_)
  refine AU0 ?_
  refine JLs (e_alloc fun b1 => ?_)
  refine JLs (e_alloc fun b2 => ?_)
  refine JLs (e_store 1 rfl rfl (by conv => lhs; whnf) (vs := [.string x.a, .string x.b]) rfl rfl rfl lE_ ?_)
  obtain ⟨xa, xb, xc, xd, xt⟩ := x
  simp only at hd
  subst hd
  refine JLs (e_store 0 rfl rfl (by conv => lhs; whnf) (vs := xc.cells (.slice A n cc)) rfl rfl rfl lE_ ?_)
  refine JL.cast (l' := (b2, isC 188 (xc.cells (.slice A n cc))) :: (b1, isC 48 [.string xa, .string xb]) :: (it, isIt mb clock (seen ++ [xt]) clock) :: (mb, isMp (qmp Q' clock)) :: (nb, isC 3 [.int .i64 z]) :: r) (by rfl) ?_
  refine AU2 ?_
  refine JLs (e_call rfl rfl (Tr.perm (l' := (nb, isC 3 [.int .i64 z]) :: (b2, isC 188 (xc.cells (.slice A n cc))) :: (b1, isC 48 [.string xa, .string xb]) :: (it, isIt mb clock (seen ++ [xt]) clock) :: (mb, isMp (qmp Q' clock)) :: r) prm_ (ended_ok (now := 0))) ?_)
  rintro v l' ⟨hv, rfl⟩
  refine JL.perm (l' := (b2, isC 188 (xc.cells (.slice A n cc))) :: (b1, isC 48 [.string xa, .string xb]) :: (it, isIt mb clock (seen ++ [xt]) clock) :: (mb, isMp (qmp Q' clock)) :: (nb, isC 3 [.int .i64 z]) :: r) prm_ ?_
  by_cases hz : xc.en < z
  ·obtain rfl : v = .bool true := hv.trans (congrArg Value.bool (decide_eq_true hz))
   refine AU2 ?_
   refine JLs (e_delete 3 rfl rfl rfl hkf ?_)
   refine JL.sub (List.sublist_append_right [_, _] _) ?_
   refine AU0 ?_
   have hx1 : Q'[j]'hjl = ⟨xa, xb, xc, .slice A n cc, xt⟩ := by rw [List.getElem?_eq_getElem hjl] at hj; exact Option.some.inj hj
   have hsplit : Q' = Q'.take j ++ (⟨xa, xb, xc, .slice A n cc, xt⟩ :: Q'.drop (j + 1)) := by rw [← hx1, ← List.drop_eq_getElem_cons hjl, List.take_append_drop]
   have her : Q'.eraseIdx j = Q'.take j ++ Q'.drop (j + 1) := List.eraseIdx_eq_take_drop_succ ..
   have hkx : keep z ⟨xa, xb, xc, .slice A n cc, xt⟩ = false := by simp [keep]; omega
   have hfil2 : (Q'.eraseIdx j).filter (keep z) = Q'.filter (keep z) := by
    rw [her, List.filter_append]
    conv => rhs; rw [hsplit, List.filter_append, List.filter_cons, hkx]
    simp
   have hno : xt ∉ (Q'.eraseIdx j).map (·.t) := by
    have h := hok.2.1
    rw [hsplit, List.map_append, List.map_cons, List.nodup_append, List.nodup_cons] at h
    rw [her, List.map_append, List.mem_append]
    rintro (h1 | h1)
    ·exact h.2.2 xt h1 xt (List.mem_cons_self ..) rfl
    ·exact h.2.1.1 h1
   have hsubj : (Q'.eraseIdx j).Sublist Q' := List.eraseIdx_sublist ..
   refine RN.loop (Nat.lt_of_le_of_lt (hsubj.countP_le (p := fun q => !(seen ++ [xt]).contains q.t)) hlt) ⟨Q'.eraseIdx j, seen ++ [xt], clock, ⟨rfl, rfl, rfl, trivial⟩, hsubj.trans hsub, hfil2.trans hfil, fun y hy hs => ?_, Nat.le_refl _, rfl, ?_⟩
   ·rcases List.mem_append.1 hs with h | h
    ·exact hkeep y (hsubj.subset hy) h
    ·exact absurd (List.mem_singleton.1 h ▸ List.mem_map_of_mem hy) hno
   ·show _ = (it, isIt mb clock (seen ++ [xt]) clock) :: (mb, isMp ⟨(Q'.eraseIdx j).map Qe.ke, clock⟩) :: _
    rw [← hdel]
    rfl
  ·obtain rfl : v = .bool false := hv.trans (congrArg Value.bool (decide_eq_false hz))
   refine AU2 ?_
   refine RN.sub (List.sublist_append_right [_, _] _) ?_
   refine RN.loop hlt ⟨Q', seen ++ [xt], clock, ⟨rfl, rfl, rfl, trivial⟩, hsub, hfil, fun y hy hs => ?_, Nat.le_refl _, rfl, rfl⟩
   rcases List.mem_append.1 hs with h | h
   ·exact hkeep y hy h
   ·have := eq_of_stamp hok.2.1 hy hx (List.mem_singleton.1 h)
    subst this
    simp [keep]; omega
end Go.Proofs.YtbalcgjphkdecaaGreatDoor.Ca
namespace Go.Proofs.YtbalcgjphkdecaaGreatDoor.Ca
open Go.RowKit Go.Lg
set_option maxRecDepth 100000
attribute [local irreducible] JC JL JD RN RT Eff Yld YldIf Tr
structure It where
 a : ByteArray
 b : ByteArray
 c : Crd
def Qe.abs (q : Qe) : It := ⟨q.a, q.b, q.c⟩
def It.is (a b : ByteArray) (x : It) : Bool := a == x.a && b == x.b
def look (a b : ByteArray) (L : List It) : Option Crd := (L.find? (It.is a b)).map (·.c)
def CBox (W : World) (cb : Nat) (L : List It) (H : List Ent) : Prop :=
 ∃ (mb : Nat) (Q : List Qe) (clock : Nat) (pool : List Ent), Q.map Qe.abs = L ∧ H = (cb, isC 243 [.map (some mb)]) :: (mb, isMp (qmp Q clock)) :: pool ∧ Qok Q clock ∧ ∀ q ∈ Q, Dv W pool q.d q.c.bs
theorem look_spec (a b : ByteArray) : ∀ (Q : List Qe) (i : Nat), (look a b (Q.map Qe.abs) = none ∧ kfind a b (Q.map Qe.ke) i = none) ∨
  ∃ j q, Q[j]? = some q ∧ kfind a b (Q.map Qe.ke) i = some (i + j, q.ke.v) ∧ look a b (Q.map Qe.abs) = some q.c ∧ It.is a b q.abs = true
 | [], i => .inl ⟨rfl, rfl⟩
 | q :: Q, i => by
  by_cases h : It.is a b q.abs = true
  ·refine .inr ⟨0, q, rfl, ?_, ?_, h⟩
   ·have h' : KE.is a b q.ke = true := h
    simp [kfind, h']
   ·simp only [look, List.map_cons, List.find?_cons, h]
    rfl
  ·have h1 : It.is a b q.abs = false := by simpa using h
   have h' : KE.is a b q.ke = false := h1
   rcases look_spec a b Q (i + 1) with ⟨h2, h3⟩ | ⟨j, x, h2, h3, h4, h5⟩
   ·refine .inl ⟨?_, by simp [kfind, h', h3]⟩
    simp only [look, List.map_cons, List.find?_cons, h1]
    exact h2
   ·refine .inr ⟨j + 1, x, by simpa using h2, ?_, ?_, h5⟩
    ·simp only [List.map_cons, kfind, h', Bool.false_eq_true, if_false, h3]
     rw [show i + 1 + j = i + (j + 1) from by omega]
    ·simp only [look, List.map_cons, List.find?_cons, h1]
     exact h4
section
variable {P : Program} {ρ : Operand → Value} {d : Option Tmp} {ty : TypeId} {pos : String} {af : Array Edge} {gd : Option (Nat × Bool)}
theorem r_lookup_some {t k e : TypeId} {x y : Operand} {b0 j : Nat} {m : Mp} {a b : ByteArray} {z v : Value} [ht : MapT P t k e] [hk : KeyT P k] (hz : ∀ w, (zeroValue e).run P w = .ok z w) (hx : ρ x = .map (some b0)) (hy : ρ y = key a b) (hf : kfind a b m.es 0 = some (j, v)) :
  YldIf P (At b0 (isMp m)) ⟨d, .lookup t x y true, ty, pos, af, gd⟩ ρ (.tuple #[v, .bool true]) := by
 have := r_lookup (P := P) (ρ := ρ) (d := d) (ty := ty) (pos := pos) (af := af) (gd := gd) (t := t) (m := m) hz hx hy
 rw [hf] at this
 exact this
theorem r_lookup_none {t k e : TypeId} {x y : Operand} {b0 : Nat} {m : Mp} {a b : ByteArray} {z : Value} [ht : MapT P t k e] [hk : KeyT P k] (hz : ∀ w, (zeroValue e).run P w = .ok z w) (hx : ρ x = .map (some b0)) (hy : ρ y = key a b) (hf : kfind a b m.es 0 = none) :
  YldIf P (At b0 (isMp m)) ⟨d, .lookup t x y true, ty, pos, af, gd⟩ ρ (.tuple #[z, .bool false]) := by
 have := r_lookup (P := P) (ρ := ρ) (d := d) (ty := ty) (pos := pos) (af := af) (gd := gd) (t := t) (m := m) hz hx hy
 rw [hf] at this
 exact this
end
def noCrd : Crd := ⟨ByteArray.empty, ByteArray.empty, 0, fun _ => 0, 0, []⟩
def zcr : List Value := noCrd.cells (.slice none 0 0)
theorem zero_cred (w : World) : (zeroValue 188).run Pg w = .ok (.agg zcr.toArray) w := by
 have h : (Pg.info? 188).bind (·.zero) = some (.agg zcr.toArray) := rfl
 obtain ⟨i, hi, hz⟩ := Option.bind_eq_some_iff.1 h
 simp [zeroValue, typeInfo, hi, hz]
theorem New_ok (W : World) (r : List Ent) : Tr Pg 83 #[] W r fun v l' => ∃ cb H, v = ptr cb ∧ CBox W cb [] H ∧ l' = H ++ r := by
 refine Tr.of_code (args := []) Tryz.func83 rfl Tryz.ntmps83 lE_ ?_
 refine AU0 ?_
 refine JLs (e_makeMap fun mb => ?_)
 repeat (first | refine JLp (y_build (cells := #[.map (some mb)]) rfl) ?_ | refine AS0 ?_)
 refine JLs (e_box rfl rfl fun cb => ?_)
 refine AU0 ?_
 refine JC.ret (RT.one rfl rfl (by conv => lhs; whnf) ?_)
 exact ⟨cb, _, rfl, ⟨mb, [], 0, [], rfl, rfl, ⟨by simp, by simp, by simp, by simp⟩, by simp⟩, rfl⟩
end Go.Proofs.YtbalcgjphkdecaaGreatDoor.Ca
namespace Go.Proofs.YtbalcgjphkdecaaGreatDoor.Ca
open Go.RowKit Go.Lg
set_option maxRecDepth 100000
attribute [local irreducible] JC JL JD RN RT Eff Yld YldIf Tr
set_option maxHeartbeats 2000000 in
theorem Get_ok {cb : Nat} {L : List It} {H r : List Ent} {W : World} {p q : ByteArray} {now : Int} (hB : CBox W cb L H) :
  Tr Pg 87 #[ptr cb, key p q, .int .i64 now] W (H ++ r) fun v l' =>
   (∃ c, look p q L = some c ∧ now ≤ c.en ∧ ∃ d le, v = .tuple #[.agg (c.cells d).toArray, .bool true] ∧ Lg.Own 5 1 d c.bs.length (c.bs.map bv) le ∧ c.bs.length ≤ 70368744177664 ∧ l' = le ++ (H ++ r)) ∨
   ((look p q L = none ∨ ∃ c, look p q L = some c ∧ c.en < now) ∧ v = .tuple #[.agg zcr.toArray, .bool false] ∧ l' = H ++ r) := by
 obtain ⟨mb, Q, clock, pool, rfl, rfl, hQ, hd⟩ := hB
 simp only [List.cons_append, List.append_assoc]
 refine Tr.of_code (args := [_, _, _]) Tryz.func87 rfl Tryz.ntmps87 lE_ ?_
 refine AU0 ?_
 refine JLs (e_box (cs := [.string p, .string q]) rfl rfl fun b => ?_)
 refine JLs (e_alloc fun b2 => ?_)
 refine AU0 ?_
 rcases look_spec p q Q 0 with ⟨h1, h2⟩ | ⟨j, x, hj, h2, h1, h3⟩
 ·refine JC.drawn 12 rfl mixed ?_
  refine JDp 0 rfl y_mv ?_
  refine JDp 1 rfl (y_nilCheck rfl) ?_
  refine JDp 2 rfl (y_fieldAddr rfl) ?_
  refine JDr 3 2 rfl rfl (r_load1 rfl rfl) ?_
  refine JDr 4 1 rfl rfl (r_loadA rfl lE_ rfl) ?_
  refine JDr 5 3 rfl rfl (r_lookup_none zero_cred rfl rfl h2) ?_
  refine JDp 6 rfl y_mv ?_
  refine JDp 7 rfl (y_extract rfl rfl) ?_
  refine JDp 8 rfl (y_extract rfl rfl) ?_
  refine JDe 9 rfl (e_alloc fun b3 => ⟨tok_, ?_⟩)
  refine JDe 10 rfl (e_store 0 rfl rfl (by conv => lhs; whnf) (vs := zcr) rfl rfl rfl lE_ ⟨tok_, ?_⟩)
  refine JDp 11 rfl y_as ?_
  refine JDd ?_
  repeat (first | refine JLp (y_build (cells := zcr.toArray) rfl) ?_ | refine AS0 ?_)
  refine JLs (e_store 1 rfl rfl (by conv => lhs; whnf) (vs := zcr) rfl rfl rfl lE_ ?_)
  refine AU0 ?_
  refine JC.ret (ret_cell2 (cs := zcr) rfl rfl 1 rfl rfl rfl (by conv => lhs; whnf) (List.sublist_append_right [_, _, _] _) ?_)
  exact .inr ⟨.inl h1, rfl, rfl⟩
 ·have hdx := hd x (List.mem_of_getElem? hj)
  obtain ⟨A, n, cc, he⟩ := hdx.slice
  obtain ⟨xa, xb, xc, xd, xt⟩ := x
  simp only at he hdx
  subst he
  refine JC.drawn 12 rfl mixed ?_
  refine JDp 0 rfl y_mv ?_
  refine JDp 1 rfl (y_nilCheck rfl) ?_
  refine JDp 2 rfl (y_fieldAddr rfl) ?_
  refine JDr 3 2 rfl rfl (r_load1 rfl rfl) ?_
  refine JDr 4 1 rfl rfl (r_loadA rfl lE_ rfl) ?_
  refine JDr 5 3 rfl rfl (r_lookup_some zero_cred rfl rfl h2) ?_
  refine JDp 6 rfl y_mv ?_
  refine JDp 7 rfl (y_extract rfl rfl) ?_
  refine JDp 8 rfl (y_extract rfl rfl) ?_
  refine JDe 9 rfl (e_alloc fun b3 => ⟨tok_, ?_⟩)
  refine JDe 10 rfl (e_store 0 rfl rfl (by conv => lhs; whnf) (vs := xc.cells (.slice A n cc)) rfl rfl rfl lE_ ⟨tok_, ?_⟩)
  refine JDp 11 rfl y_as ?_
  refine JDd ?_
  refine RN.cast (l' := (b3, isC 188 (xc.cells (.slice A n cc))) :: (b2, isC 188 zcr) :: (b, isC 48 [.string p, .string q]) :: (cb, isC 243 [.map (some mb)]) :: (mb, isMp (qmp Q clock)) :: (pool ++ r)) (by rfl) ?_
  by_cases hn : xc.en < now
  ·repeat (first | refine JLp (y_build (cells := zcr.toArray) rfl) ?_ | refine AS1 ?_)
   refine JLs (e_store 1 rfl rfl (by conv => lhs; whnf) (vs := zcr) rfl rfl rfl lE_ ?_)
   refine AU0 ?_
   refine JC.ret (ret_cell2 (cs := zcr) rfl rfl 1 rfl rfl rfl (by conv => lhs; whnf) (List.sublist_append_right [_, _, _] _) ?_)
   exact .inr ⟨.inr ⟨xc, h1, hn⟩, rfl, rfl⟩
  ·refine AU1 ?_
   refine JLs (e_call rfl rfl (copied_ok (c := xc) (hdx.mono fun e he => by simp [he])) ?_)
   rintro v l' ⟨v', le, rfl, ho, rfl⟩
   obtain ⟨A2, c2, rfl, -, -⟩ := ho.src (W := W)
   refine JL.perm (l' := (b3, isC 188 (xc.cells (.slice A n cc))) :: (b2, isC 188 zcr) :: (b, isC 48 [.string p, .string q]) :: (le ++ ((cb, isC 243 [.map (some mb)]) :: (mb, isMp (qmp Q clock)) :: (pool ++ r)))) prm_ ?_
   refine JLs (e_store 1 rfl rfl (by conv => lhs; whnf) (vs := xc.cells (.slice A2 xc.bs.length c2)) rfl rfl rfl lE_ ?_)
   refine AU0 ?_
   refine JC.ret (ret_cell2 (cs := xc.cells (.slice A2 xc.bs.length c2)) rfl rfl 1 rfl rfl rfl (by conv => lhs; whnf) (List.sublist_append_right [_, _, _] _) ?_)
   obtain ⟨_, _, _, hb, _⟩ := hdx
   exact .inl ⟨xc, h1, by omega, _, le, rfl, ho, hb, rfl⟩
end Go.Proofs.YtbalcgjphkdecaaGreatDoor.Ca
namespace Go.Proofs.YtbalcgjphkdecaaGreatDoor.Ca
open Go.RowKit Go.Lg
set_option maxRecDepth 100000
attribute [local irreducible] JC JL JD RN RT Eff Yld YldIf Tr
def keepI (z : Int) (x : It) : Bool := decide (z ≤ x.c.en)
def setI (p q : ByteArray) (c : Crd) (x : It) : It := if It.is p q x then ⟨x.a, x.b, c⟩ else x
def putR (p q : ByteArray) (c : Crd) (now : Int) (L : List It) : Int × List It :=
 match look p q (L.filter (keepI now)) with
 | some _ => (0, (L.filter (keepI now)).map (setI p q c))
 | none => if 10 ≤ (L.filter (keepI now)).length then (13, L.filter (keepI now)) else (0, L.filter (keepI now) ++ [⟨p, q, c⟩])
theorem keep_abs (now : Int) (Q : List Qe) : (Q.map Qe.abs).filter (keepI now) = (Q.filter (keep now)).map Qe.abs := by
 rw [List.filter_map]
 rfl
theorem is_eq {p q : ByteArray} {x : Qe} (h : It.is p q x.abs = true) : p = x.a ∧ q = x.b := by
 simp only [It.is, Bool.and_eq_true] at h
 exact ⟨(MapKept.bytes_beq _ _).1 h.1, (MapKept.bytes_beq _ _).1 h.2⟩
theorem look_none {p q : ByteArray} {Q : List Qe} (h : look p q (Q.map Qe.abs) = none) : ∀ x ∈ Q, ¬ (x.a = p ∧ x.b = q) := by
 rintro x hx ⟨rfl, rfl⟩
 simp only [look, Option.map_eq_none_iff, List.find?_eq_none] at h
 have hr : ∀ s : ByteArray, (s == s) = true := fun s => (MapKept.bytes_beq _ _).2 rfl
 exact h x.abs (List.mem_map_of_mem hx) (by simp [It.is, Qe.abs, hr])
theorem Qok.push {Q : List Qe} {clock : Nat} {p q : ByteArray} {c : Crd} {A : Option Addr} {n cc : Nat} (h : Qok Q clock) (hn : look p q (Q.map Qe.abs) = none) : Qok (Q ++ [⟨p, q, c, .slice A n cc, clock⟩]) (clock + 1) := by
 obtain ⟨h1, h2, h3, h4⟩ := h
 refine ⟨fun x hx => ?_, ?_, ?_, fun x hx => ?_⟩
 ·rcases List.mem_append.1 hx with hx | hx
  ·have := h1 x hx; omega
  ·rw [List.mem_singleton.1 hx]; exact Nat.lt_succ_self _
 ·rw [List.map_append, List.nodup_append]
  refine ⟨h2, by simp, fun a ha b hb => ?_⟩
  obtain ⟨x, hx, rfl⟩ := List.mem_map.1 ha
  simp at hb
  have := h1 x hx
  omega
 ·rw [List.pairwise_append]
  exact ⟨h3, by simp, fun x hx y hy => by rw [List.mem_singleton.1 hy]; exact look_none hn x hx⟩
 ·rcases List.mem_append.1 hx with hx | hx
  ·exact h4 x hx
  ·rw [List.mem_singleton.1 hx]; exact ⟨A, n, cc, rfl⟩
def setQ (c : Crd) (d : Value) (x : Qe) : Qe := ⟨x.a, x.b, c, d, x.t⟩
theorem map_modify_same {α β : Type} (f : α → β) (g : α → α) (h : ∀ x, f (g x) = f x) (l : List α) (j : Nat) : (l.modify j g).map f = l.map f := by
 apply List.ext_getElem?
 intro i
 simp only [List.getElem?_map, List.getElem?_modify]
 cases l[i]? with
 | none => simp
 | some x => by_cases hj : j = i <;> simp [hj, h]
theorem Qok.set {Q : List Qe} {clock j : Nat} {c : Crd} {A : Option Addr} {n cc : Nat} (h : Qok Q clock) : Qok (Q.modify j (setQ c (.slice A n cc))) clock := by
 obtain ⟨h1, h2, h3, h4⟩ := h
 have hm : ∀ x ∈ Q.modify j (setQ c (.slice A n cc)), x ∈ Q ∨ ∃ y ∈ Q, x = setQ c (.slice A n cc) y := fun x hx => by
  obtain ⟨i, hi⟩ := List.getElem?_of_mem hx
  rw [List.getElem?_modify] at hi
  cases hq : Q[i]? with
  | none => simp [hq] at hi
  | some y =>
   by_cases hj : j = i
   ·simp [hq, hj] at hi
    exact .inr ⟨y, List.mem_of_getElem? hq, hi.symm⟩
   ·simp [hq, hj] at hi
    exact .inl (hi ▸ List.mem_of_getElem? hq)
 refine ⟨fun x hx => ?_, ?_, ?_, fun x hx => ?_⟩
 ·rcases hm x hx with h | ⟨y, hy, rfl⟩
  ·exact h1 x h
  ·exact h1 y hy
 ·rw [map_modify_same (fun x : Qe => x.t) (setQ c (.slice A n cc)) (fun _ => rfl)]
  exact h2
 ·have e := map_modify_same (fun x : Qe => (x.a, x.b)) (setQ c (.slice A n cc)) (fun _ => rfl) Q j
  have h3' : (Q.map fun x : Qe => (x.a, x.b)).Pairwise fun y z => ¬ (y.1 = z.1 ∧ y.2 = z.2) := by rw [List.pairwise_map]; exact h3
  rw [← e, List.pairwise_map] at h3'
  exact h3'
 ·rcases hm x hx with h | ⟨y, hy, rfl⟩
  ·exact h4 x h
  ·exact ⟨A, n, cc, rfl⟩
theorem set_abs {p q : ByteArray} {c : Crd} {d : Value} {Q : List Qe} {j : Nat} {x : Qe} (h : Q.Pairwise (fun y z => ¬ (y.a = z.a ∧ y.b = z.b))) (hj : Q[j]? = some x) (hx : It.is p q x.abs = true) :
  (Q.modify j (setQ c d)).map Qe.abs = (Q.map Qe.abs).map (setI p q c) := by
 apply List.ext_getElem?
 intro i
 simp only [List.getElem?_map, List.getElem?_modify]
 cases hi : Q[i]? with
 | none => simp
 | some y =>
  by_cases hji : j = i
  ·subst hji
   rw [hj] at hi
   cases hi
   simp [setI, hx]
   rfl
  ·have hy : It.is p q y.abs = false := by
    cases hc : It.is p q y.abs with
    | false => rfl
    | true =>
     obtain ⟨e1, e2⟩ := is_eq hx
     obtain ⟨e3, e4⟩ := is_eq hc
     have hjl := (List.getElem?_eq_some_iff.1 hj)
     have hil := (List.getElem?_eq_some_iff.1 hi)
     obtain ⟨hjl, rfl⟩ := hjl
     obtain ⟨hil, rfl⟩ := hil
     have hp := List.pairwise_iff_getElem.1 h
     rcases Nat.lt_or_gt_of_ne hji with hlt | hlt
     ·exact absurd ⟨e1 ▸ e3, e2 ▸ e4⟩ (hp j i hjl hil hlt)
     ·exact absurd ⟨e3 ▸ e1, e4 ▸ e2⟩ (hp i j hil hjl hlt)
   simp [hji, setI, hy]
end Go.Proofs.YtbalcgjphkdecaaGreatDoor.Ca
namespace Go.Proofs.YtbalcgjphkdecaaGreatDoor.Ca
open Go.RowKit Go.Lg
set_option maxRecDepth 100000
attribute [local irreducible] JC JL JD RN RT Eff Yld YldIf Tr
set_option maxHeartbeats 2000000 in
theorem Put_ok {cb : Nat} {L : List It} {H r : List Ent} {W : World} {p q : ByteArray} {c : Crd} {d : Value} {now : Int} (hB : CBox W cb L H) (hd : Dv W r d c.bs) :
  Tr Pg 98 #[ptr cb, key p q, .agg (c.cells d).toArray, .int .i64 now] W (H ++ r) fun v l' =>
   v = .int .i64 (putR p q c now L).1 ∧ ∃ H', CBox W cb (putR p q c now L).2 H' ∧ l' = H' ++ r := by
 obtain ⟨mb, Q, clock, pool, rfl, rfl, hQ, hdQ⟩ := hB
 obtain ⟨A, n, cc, rfl⟩ := hd.slice
 have hQ1 := hQ.sub (List.filter_sublist (p := keep now) (l := Q))
 have hdQ1 : ∀ x ∈ Q.filter (keep now), Dv W pool x.d x.c.bs := fun x hx => hdQ x (List.filter_sublist.subset hx)
 simp only [List.cons_append, List.append_assoc]
 refine Tr.of_code (args := [_, _, _, _]) Tryz.func98 rfl Tryz.ntmps98 lE_ ?_
 refine AU0 ?_
 refine JLs (e_box (cs := [.string p, .string q]) rfl rfl fun b5 => ?_)
 refine JLs (e_box rfl rfl fun b6 => ?_)
 refine JLs (e_box (cs := [.int .i64 now]) rfl rfl fun b7 => ?_)
 repeat (first | refine JLp (y_makeFunc (v := .func (.func 133) #[] #[ptr b7]) (by simp; rfl)) ?_ | refine AS4 ?_)
 refine JLs (e_call rfl rfl (Tr.perm (l' := (mb, isMp (qmp Q clock)) :: (b7, isC 3 [.int .i64 now]) :: (b6, isC 188 (c.cells (.slice A n cc))) :: (b5, isC 48 [.string p, .string q]) :: (cb, isC 243 [.map (some mb)]) :: (pool ++ r)) prm_ (DeleteFunc_ok hQ)) ?_)
 rintro v l' rfl
 refine JL.perm (l' := (b7, isC 3 [.int .i64 now]) :: (b6, isC 188 (c.cells (.slice A n cc))) :: (b5, isC 48 [.string p, .string q]) :: (cb, isC 243 [.map (some mb)]) :: (mb, isMp (qmp (Q.filter (keep now)) clock)) :: (pool ++ r)) prm_ ?_
 refine AU0 ?_
 rcases look_spec p q (Q.filter (keep now)) 0 with ⟨h1, h2⟩ | ⟨j, x, hj, h2, h1, h3⟩
 ·refine JC.drawn 12 rfl mixed ?_
  refine JDp 0 rfl y_mv ?_
  refine JDp 1 rfl (y_nilCheck rfl) ?_
  refine JDp 2 rfl (y_fieldAddr rfl) ?_
  refine JDr 3 3 rfl rfl (r_load1 rfl rfl) ?_
  refine JDr 4 2 rfl rfl (r_loadA rfl lE_ rfl) ?_
  refine JDr 5 4 rfl rfl (r_lookup_none zero_cred rfl rfl h2) ?_
  refine JDp 6 rfl y_mv ?_
  refine JDp 7 rfl (y_extract rfl rfl) ?_
  refine JDp 8 rfl (y_extract rfl rfl) ?_
  refine JDe 9 rfl (e_alloc fun b9 => ⟨tok_, ?_⟩)
  refine JDe 10 rfl (e_store 0 rfl rfl (by conv => lhs; whnf) (vs := zcr) rfl rfl rfl lE_ ⟨tok_, ?_⟩)
  refine JDp 11 rfl y_as ?_
  refine JDd ?_
  refine RN.cast (l' := (b9, isC 188 zcr) :: (b7, isC 3 [.int .i64 now]) :: (b6, isC 188 (c.cells (.slice A n cc))) :: (b5, isC 48 [.string p, .string q]) :: (cb, isC 243 [.map (some mb)]) :: (mb, isMp (qmp (Q.filter (keep now)) clock)) :: (pool ++ r)) (by rfl) (RN.sub (List.sublist_cons_self _ _) ?_)
  refine AU4 ?_
  refine JL.read 4 rfl rfl (r_lenMap rfl) ?_
  have hlen : ((qmp (Q.filter (keep now)) clock).es.length : Int) = ((Q.filter (keep now)).length : Int) := by simp [qmp]
  rw [hlen]
  have hpr : putR p q c now (Q.map Qe.abs) = if 10 ≤ (Q.filter (keep now)).length then (13, (Q.filter (keep now)).map Qe.abs) else (0, (Q.filter (keep now)).map Qe.abs ++ [⟨p, q, c⟩]) := by
   unfold putR
   rw [keep_abs, h1, List.length_map]
  rw [hpr]
  by_cases h10 : 10 ≤ (Q.filter (keep now)).length
  ·rw [if_pos h10]
   refine AU0 ?_
   refine JC.sub (List.sublist_append_right [_, _, _] _) (JC.ret (RT.one rfl rfl (by conv => lhs; whnf) ?_))
   exact ⟨rfl, _ :: _ :: pool, ⟨mb, _, clock, pool, rfl, rfl, hQ1, hdQ1⟩, rfl⟩
  ·rw [if_neg h10]
   refine AU0 ?_
   refine JC.drawn 8 rfl mixed ?_
   refine JDp 0 rfl y_mv ?_
   refine JDp 1 rfl (y_nilCheck rfl) ?_
   refine JDp 2 rfl (y_fieldAddr rfl) ?_
   refine JDr 3 3 rfl rfl (r_load1 rfl rfl) ?_
   refine JDr 4 2 rfl rfl (r_loadA rfl lE_ rfl) ?_
   refine JDr 5 1 rfl rfl (r_loadA rfl lE_ rfl) ?_
   refine JDe 6 rfl (e_call rfl rfl (copied_ok (c := c) (hd.mono fun e he => by simp [he])) ?_)
   rintro v l' ⟨v', le, rfl, ho, rfl⟩
   obtain ⟨A2, c2, rfl, -, -⟩ := ho.src (W := W)
   refine ⟨tok_, JD.perm (l' := (b7, isC 3 [.int .i64 now]) :: (b6, isC 188 (c.cells (.slice A n cc))) :: (b5, isC 48 [.string p, .string q]) :: (cb, isC 243 [.map (some mb)]) :: (mb, isMp (qmp (Q.filter (keep now)) clock)) :: (pool ++ (le ++ r))) prm_ ?_⟩
   refine JDe 7 rfl (e_mapUpdate 4 rfl rfl rfl (by conv => lhs; whnf) ⟨tok_, ?_⟩)
   refine JD.done (by kernel_rfl) (RN.sub (List.sublist_append_right [_, _, _] _) ?_)
   refine AU0 ?_
   refine JC.ret (RT.one rfl rfl (by conv => lhs; whnf) ?_)
   have hput : (qmp (Q.filter (keep now)) clock).put p q (.agg (c.cells (.slice A2 c.bs.length c2)).toArray) = qmp (Q.filter (keep now) ++ [⟨p, q, c, .slice A2 c.bs.length c2, clock⟩]) (clock + 1) := by
    have h2' : kfind p q (qmp (Q.filter (keep now)) clock).es 0 = none := h2
    unfold Mp.put
    rw [h2']
    simp [qmp, Qe.ke]
   rw [hput]
   obtain ⟨_, _, _, hb, _⟩ := hd
   refine ⟨rfl, _ :: _ :: (pool ++ le), ⟨mb, Q.filter (keep now) ++ [⟨p, q, c, .slice A2 c.bs.length c2, clock⟩], clock + 1, pool ++ le, by simp [Qe.abs], rfl, hQ1.push h1, fun x hx => ?_⟩, by simp⟩
   rcases List.mem_append.1 hx with hx | hx
   ·exact (hdQ1 x hx).mono fun e he => List.mem_append_left _ he
   ·rw [List.mem_singleton.1 hx]
    exact (Dv.own ho hb).mono fun e he => List.mem_append_right _ he
 ·have hdx := hdQ1 x (List.mem_of_getElem? hj)
  obtain ⟨Ax, nx, cx, he⟩ := hdx.slice
  have hpr : putR p q c now (Q.map Qe.abs) = (0, ((Q.filter (keep now)).map Qe.abs).map (setI p q c)) := by
   unfold putR
   rw [keep_abs, h1]
  have hset := set_abs (c := c) (d := Value.slice none 0 0) hQ1.2.2.1 hj h3
  have hset' := fun d => set_abs (c := c) (d := d) hQ1.2.2.1 hj h3
  clear hset
  rw [hpr]
  obtain ⟨xa, xb, xc, xd, xt⟩ := x
  simp only at he hdx
  subst he
  refine JC.drawn 12 rfl mixed ?_
  refine JDp 0 rfl y_mv ?_
  refine JDp 1 rfl (y_nilCheck rfl) ?_
  refine JDp 2 rfl (y_fieldAddr rfl) ?_
  refine JDr 3 3 rfl rfl (r_load1 rfl rfl) ?_
  refine JDr 4 2 rfl rfl (r_loadA rfl lE_ rfl) ?_
  refine JDr 5 4 rfl rfl (r_lookup_some zero_cred rfl rfl h2) ?_
  refine JDp 6 rfl y_mv ?_
  refine JDp 7 rfl (y_extract rfl rfl) ?_
  refine JDp 8 rfl (y_extract rfl rfl) ?_
  refine JDe 9 rfl (e_alloc fun b9 => ⟨tok_, ?_⟩)
  refine JDe 10 rfl (e_store 0 rfl rfl (by conv => lhs; whnf) (vs := xc.cells (.slice Ax nx cx)) rfl rfl rfl lE_ ⟨tok_, ?_⟩)
  refine JDp 11 rfl y_as ?_
  refine JDd ?_
  refine RN.cast (l' := (b9, isC 188 (xc.cells (.slice Ax nx cx))) :: (b7, isC 3 [.int .i64 now]) :: (b6, isC 188 (c.cells (.slice A n cc))) :: (b5, isC 48 [.string p, .string q]) :: (cb, isC 243 [.map (some mb)]) :: (mb, isMp (qmp (Q.filter (keep now)) clock)) :: (pool ++ r)) (by rfl) (RN.sub (List.sublist_cons_self _ _) ?_)
  refine AU4 ?_
  refine JC.drawn 8 rfl mixed ?_
  refine JDp 0 rfl y_mv ?_
  refine JDp 1 rfl (y_nilCheck rfl) ?_
  refine JDp 2 rfl (y_fieldAddr rfl) ?_
  refine JDr 3 3 rfl rfl (r_load1 rfl rfl) ?_
  refine JDr 4 2 rfl rfl (r_loadA rfl lE_ rfl) ?_
  refine JDr 5 1 rfl rfl (r_loadA rfl lE_ rfl) ?_
  refine JDe 6 rfl (e_call rfl rfl (copied_ok (c := c) (hd.mono fun e he => by simp [he])) ?_)
  rintro v l' ⟨v', le, rfl, ho, rfl⟩
  obtain ⟨A2, c2, rfl, -, -⟩ := ho.src (W := W)
  refine ⟨tok_, JD.perm (l' := (b7, isC 3 [.int .i64 now]) :: (b6, isC 188 (c.cells (.slice A n cc))) :: (b5, isC 48 [.string p, .string q]) :: (cb, isC 243 [.map (some mb)]) :: (mb, isMp (qmp (Q.filter (keep now)) clock)) :: (pool ++ (le ++ r))) prm_ ?_⟩
  refine JDe 7 rfl (e_mapUpdate 4 rfl rfl rfl (by conv => lhs; whnf) ⟨tok_, ?_⟩)
  refine JD.done (by kernel_rfl) (RN.sub (List.sublist_append_right [_, _, _] _) ?_)
  refine AU0 ?_
  refine JC.ret (RT.one rfl rfl (by conv => lhs; whnf) ?_)
  have hput : (qmp (Q.filter (keep now)) clock).put p q (.agg (c.cells (.slice A2 c.bs.length c2)).toArray) = qmp ((Q.filter (keep now)).modify j (setQ c (.slice A2 c.bs.length c2))) clock := by
   have h2' : kfind p q (qmp (Q.filter (keep now)) clock).es 0 = some (0 + j, Qe.ke ⟨xa, xb, xc, .slice Ax nx cx, xt⟩ |>.v) := h2
   unfold Mp.put
   rw [h2']
   simp only [qmp, Nat.zero_add]
   congr 1
   apply List.ext_getElem?
   intro i
   simp only [List.getElem?_map, List.getElem?_modify]
   cases (Q.filter (keep now))[i]? with
   | none => simp
   | some y => by_cases hji : j = i <;> simp [hji, Qe.ke, setQ]
  rw [hput]
  obtain ⟨_, _, _, hb, _⟩ := hd
  refine ⟨rfl, _ :: _ :: (pool ++ le), ⟨mb, (Q.filter (keep now)).modify j (setQ c (.slice A2 c.bs.length c2)), clock, pool ++ le, hset' _, rfl, hQ1.set, fun y hy => ?_⟩, by simp⟩
  obtain ⟨i, hi⟩ := List.getElem?_of_mem hy
  rw [List.getElem?_modify] at hi
  cases hq : (Q.filter (keep now))[i]? with
  | none => simp [hq] at hi
  | some z =>
   by_cases hji : j = i
   ·simp [hq, hji] at hi
    subst hi
    exact (Dv.own ho hb).mono fun e he => List.mem_append_right _ he
   ·simp [hq, hji] at hi
    subst hi
    exact (hdQ1 z (List.mem_of_getElem? hq)).mono fun e he => List.mem_append_left _ he
end Go.Proofs.YtbalcgjphkdecaaGreatDoor.Ca
namespace Go.Proofs.YtbalcgjphkdecaaGreatDoor.To
open Go.RowKit Go.Lg
set_option maxRecDepth 100000
def ck (f : Nat → Value) : List Value := [f 0, f 1, f 2, f 3, f 4, f 5, f 6, f 7, f 8, f 9, f 10, f 11, f 12, f 13, f 14, f 15, f 16, f 17, f 18, f 19, f 20, f 21, f 22, f 23, f 24, f 25, f 26, f 27, f 28, f 29, f 30, f 31]
def kf (kk : Bs) (i : Nat) : Value := .int .u8 (kk.getD i 0).toNat
theorem ck_eq {kk : Bs} (h : kk.length = 32) : kk.map bv = ck (kf kk) := by
 obtain ⟨a0, a1, a2, a3, a4, a5, a6, a7, a8, a9, b0, b1, b2, b3, b4, b5, b6, b7, b8, b9, c0, c1, c2, c3, c4, c5, c6, c7, c8, c9, d0, d1, rfl⟩ := len32 h
 rfl
structure CC where
 p : P2
 f : Nat → Value
 cab : Value
 nn : Nat
 ns : Nat
 nq : Nat
 st : Nat
 sent : Nat
 tg : P2
 vv : Value
 onc : Int
 ob : Value
 ou : Int
 ofst : Bool
def CC.cells (c : CC) : List Value := [sv c.p.1, sv c.p.2] ++ (ck c.f ++ [c.cab, iv c.nn, iv c.ns, iv c.nq, iv c.st, iv 0, iv c.sent, sv c.tg.1, sv c.tg.2, c.vv, iv c.onc, c.ob, iv c.ou, .bool c.ofst])
def clE (b : Nat) (c : CC) : Ent := (b, isC 183 c.cells)
attribute [local irreducible] JC JL JD RN RT Eff Yld YldIf Tr partsL okR splitL wordB joinD fit betweenS laidS viaS De.wrapB De.num De.clampI K Se.sealB Pa.byts Au.byts RP.byts Mg.byts Se.inc
theorem isUserB_spec {p : P2} (h : isUserB p = true) : okP p ∧ targetS p.2 = none := by
 simp only [isUserB, Bool.and_eq_true] at h
 exact ⟨okPb_spec h.1, Option.isNone_iff_eq_none.1 h.2⟩
theorem fitP_name {p : P2} (h : fitP p = true) : fitN p.2 = true := by
 simp only [fitP, Bool.and_eq_true] at h
 exact h.2
theorem isUser_yes {p : P2} (h : isUserB p = true) {W : World} {l : List Ent} : Tr Pg 82 #[pv p] W l fun v l' => v = .bool true ∧ l' = l := by
 obtain ⟨h1, h2⟩ := isUserB_spec h
 refine Tr.of_code (args := [_]) Tryz.func82 rfl Tryz.ntmps82 lE_ ?_
 refine AU0 ?_
 refine JLs (e_box (cs := enc2 p) rfl rfl fun bx => ?_)
 refine AU1 ?_
 refine JLs (e_call rfl rfl (Target_ok (fitP_name h1.2.1)) ?_)
 rintro v l' ⟨rfl, rfl⟩
 rw [h2]
 refine AU1 ?_
 refine JLs (e_call rfl rfl (IsPrinc_yes h1) ?_)
 rintro v l' ⟨rfl, rfl⟩
 refine AU0 ?_
 exact JC.sub (List.sublist_cons_self _ _) (JC.ret (RT.one rfl rfl rfl ⟨rfl, rfl⟩))
theorem home_ok {b : Nat} {c : CC} (hs : c.p.1.length ≤ 1000) {W : World} {l : List Ent} (he : clE b c ∈ l) : Tr Pg 88 #[ptr b] W l fun v l' => v = pv (c.p.1, grantS ++ c.p.1) ∧ l' = l := by
 obtain ⟨i, hi⟩ := List.mem_iff_getElem?.1 he
 refine Tr.of_code (args := [_]) Tryz.func88 rfl Tryz.ntmps88 lE_ ?_
 refine AU0 ?_
 refine JLs (e_alloc fun b2 => ?_)
 refine AU0 ?_
 refine JC.drawn 13 rfl mixed ?_
 refine JDp 0 rfl y_mv ?_
 refine JDp 1 rfl (y_nilCheck rfl) ?_
 refine JDp 2 rfl (y_fieldAddr rfl) ?_
 refine JDp 3 rfl (y_fieldAddr rfl) ?_
 refine JD.read 4 (i + 1) hi rfl (by kernel_rfl) (by kernel_rfl) rfl (r_load1 rfl rfl) ?_
 refine JDp 5 rfl y_mv ?_
 refine JDp 6 rfl (y_nilCheck rfl) ?_
 refine JDp 7 rfl (y_fieldAddr rfl) ?_
 refine JDp 8 rfl (y_fieldAddr rfl) ?_
 refine JD.read 9 (i + 1) hi rfl (by kernel_rfl) (by kernel_rfl) rfl (r_load1 rfl rfl) ?_
 refine JDe 10 rfl (e_call rfl rfl (Krbtgt_ok (r := c.p.1) hs) ?_)
 rintro v l' ⟨rfl, rfl⟩
 refine ⟨TOk.mem (List.mem_cons_of_mem _ he) (TOk.mem (List.mem_cons_of_mem _ he) TOk.nil), ?_⟩
 refine JDp 11 rfl (y_build (cells := (enc2 (c.p.1, grantS ++ c.p.1)).toArray) rfl) ?_
 refine JDe 12 rfl (e_store 0 rfl rfl rfl (vs := enc2 (c.p.1, grantS ++ c.p.1)) rfl rfl rfl lE_ ⟨TOk.mem (List.mem_cons_of_mem _ he) (TOk.mem (List.mem_cons_of_mem _ he) TOk.nil), ?_⟩)
 refine JDd ?_
 refine RN.cast (l' := (b2, isC 48 (enc2 (c.p.1, grantS ++ c.p.1))) :: l) rfl ?_
 refine AU0 ?_
 exact JC.ret (ret_cell rfl rfl 0 rfl rfl rfl (List.sublist_cons_self _ _) ⟨rfl, rfl⟩)
theorem till_ok {now : Int} (h : tm now) {W : World} {l : List Ent} : Tr Pg 118 #[iv now] W l fun v l' => v = iv (tillM now) ∧ l' = l := by
 obtain ⟨h1, h2⟩ := h
 have e : (if (1073741824 : Int) < now + 1000 then (1073741824 : Int) else now + 1000) = tillM now := by unfold tillM; exact min_int _ _
 refine Tr.of_code (args := [_]) Tryz.func118 rfl Tryz.ntmps118 lE_ ?_
 repeat (first | refine JLp (y_min rfl rfl e) ?_ | refine AS0 ?_)
 exact JC.ret (RT.one rfl rfl rfl ⟨rfl, rfl⟩)
theorem authn_ok {b : Nat} {c : CC} {xb kb : Nat} {kk : Bs} (hk : kk.length = 32) {u : Nat} (hu : u ≤ 255) {now sq : Int} (hg : (Au.mk c.p now sq).good) (hns : c.ns ≤ 1000000) {W : World} {r : List Ent} :
  Tr Pg 91 #[ptr b, ptr xb, iv u, iv now, iv sq] W (clE b c :: (xb, isBx kb kk) :: (kb, isKy kk) :: r) fun v l' => ∃ le, OwnB v (Se.sealB kk u (BitVec.ofNat 64 (c.ns + 1)) (Au.mk c.p now sq).byts) le ∧ l' = le ++ (clE b { c with ns := c.ns + 1 } :: (xb, isBx kb kk) :: (kb, isKy kk) :: r) := by
 have hab := Au.byts_le hg
 have hi := inc_nat (n := c.ns) (by omega)
 refine Tr.of_code (args := [_, _, _, _, _]) Tryz.func91 rfl Tryz.ntmps91 lE_ ?_
 unfold clE
 repeat (first | refine JLp (y_build (cells := ((Au.mk c.p now sq).cells).toArray) rfl) ?_ | refine AS1 ?_)
 refine JLs (e_call rfl rfl (EncodeAuthn_ok hg) ?_)
 rintro v l' ⟨v1, le1, rfl, ho1, rfl⟩
 refine JL.perm (l' := (b, isC 183 c.cells) :: (xb, isBx kb kk) :: (kb, isKy kk) :: (le1 ++ r)) (perm_mid [_, _, _] le1 r).symm ?_
 refine AU0 ?_
 refine JLs (e_call rfl rfl (Se.Add64_ok (o := 36) (x := (c.ns : Int)) 0 rfl rfl) ?_)
 rintro v l' ⟨rfl, rfl⟩
 rw [hi]
 refine JL.cast (l' := (b, isC 183 ({ c with ns := c.ns + 1 } : CC).cells) :: (xb, isBx kb kk) :: (kb, isKy kk) :: (le1 ++ r)) rfl ?_
 refine AU0 ?_
 refine JLs (e_call rfl rfl (Tr.perm (l' := (xb, isBx kb kk) :: (kb, isKy kk) :: ((b, isC 183 ({ c with ns := c.ns + 1 } : CC).cells) :: (le1 ++ r))) prm_ (BSeal_ok hk (u := u) (n := c.ns + 1) hu (by omega) (by omega) ((BV.own (W := W) ho1).mono fun e he => by simp [he]))) ?_)
 rintro v l' ⟨v2, le2, rfl, ho2, rfl⟩
 refine AU0 ?_
 refine JC.sub (l' := le2 ++ ((xb, isBx kb kk) :: (kb, isKy kk) :: ((b, isC 183 ({ c with ns := c.ns + 1 } : CC).cells) :: r))) (List.Sublist.append_left (List.Sublist.cons_cons _ (List.Sublist.cons_cons _ (List.Sublist.cons_cons _ (List.sublist_append_right le1 r)))) _) ?_
 refine JC.perm (l' := le2 ++ ((b, isC 183 ({ c with ns := c.ns + 1 } : CC).cells) :: (xb, isBx kb kk) :: (kb, isKy kk) :: r)) prm_ ?_
 exact JC.ret (RT.one rfl rfl (by conv => lhs; whnf) ⟨le2, ho2, rfl⟩)
set_option maxHeartbeats 1000000 in
theorem sends_ok {b : Nat} {c : CC} {xb u : Nat} {fs : Bool} {g : FuncId} {cap : Array Value} (hg : FnT Pg g) {m : Mg} (hm : m.good) {w1 w2 : Value} {W : World} {r : List Ent} (hw : m.at_ W r w1 w2) (hnn : c.nn ≤ 1000000) (hse : c.sent ≤ 1000000)
  (hreq : ∀ r', (∀ e ∈ r, e ∈ r') → clE b { c with nn := c.nn + 1, sent := c.sent + 1, onc := ((c.nn + 1 : Nat) : Int), ob := ptr xb, ou := u, ofst := fs } ∈ r' → Tr Pg g (iv ((c.nn + 1 : Nat) : Int) :: cap.toList).toArray W r' fun v l' => v = .agg (m.cells w1 w2).toArray ∧ l' = r') :
  Tr Pg 116 #[ptr b, .agg #[iv 0, ptr xb, iv u, .bool fs], .func (.func g) #[] cap] W (clE b c :: r) fun v l' => ∃ le, OwnB v m.byts le ∧ l' = le ++ (clE b { c with nn := c.nn + 1, sent := c.sent + 1, onc := ((c.nn + 1 : Nat) : Int), ob := ptr xb, ou := u, ofst := fs } :: r) := by
 have hi := inc_nat (n := c.nn) (by omega)
 unfold clE at *
 refine Tr.of_code (args := [_, _, _]) Tryz.func116 rfl Tryz.ntmps116 lE_ ?_
 refine AU0 ?_
 refine JLs (e_box (cs := [iv 0, ptr xb, iv u, .bool fs]) rfl rfl fun b4 => ?_)
 refine AU0 ?_
 refine JLs (e_call rfl rfl (Se.Add64_ok (o := 35) (x := (c.nn : Int)) 1 rfl rfl) ?_)
 rintro v l' ⟨rfl, rfl⟩
 rw [hi]
 refine JL.cast (l' := (b4, isC 181 [iv 0, ptr xb, iv u, .bool fs]) :: (b, isC 183 ({ c with nn := c.nn + 1 } : CC).cells) :: r) rfl ?_
 refine AU0 ?_
 refine JLs (e_store 0 rfl rfl rfl (vs := [iv ((c.nn + 1 : Nat) : Int)]) rfl rfl rfl lE_ ?_)
 refine JL.cast (l' := (b4, isC 181 [iv ((c.nn + 1 : Nat) : Int), ptr xb, iv u, .bool fs]) :: (b, isC 183 ({ c with nn := c.nn + 1 } : CC).cells) :: r) rfl ?_
 refine AU1 ?_
 refine JLs (e_store 1 rfl rfl rfl (vs := [iv ((c.nn + 1 : Nat) : Int), ptr xb, iv u, .bool fs]) rfl rfl rfl lE_ ?_)
 refine JL.cast (l' := (b4, isC 181 [iv ((c.nn + 1 : Nat) : Int), ptr xb, iv u, .bool fs]) :: (b, isC 183 ({ c with nn := c.nn + 1, onc := ((c.nn + 1 : Nat) : Int), ob := ptr xb, ou := u, ofst := fs } : CC).cells) :: r) rfl ?_
 repeat (first | refine JLp (y_add (a := (c.sent : Int)) (b := 1) (c := (c.sent : Int) + 1) rfl rfl (wrap_add (by omega) (by omega))) ?_ | refine AS2 ?_)
 refine JLs (e_store 1 rfl rfl rfl (vs := [iv ((c.sent : Int) + 1)]) rfl rfl rfl lE_ ?_)
 refine JL.cast (l' := (b4, isC 181 [iv ((c.nn + 1 : Nat) : Int), ptr xb, iv u, .bool fs]) :: (b, isC 183 ({ c with nn := c.nn + 1, sent := c.sent + 1, onc := ((c.nn + 1 : Nat) : Int), ob := ptr xb, ou := u, ofst := fs } : CC).cells) :: r) rfl ?_
 refine AU1 ?_
 refine JLs (e_call rfl rfl (hreq _ (fun e he => by simp [he]) (by simp)) ?_)
 rintro v l' ⟨rfl, rfl⟩
 refine JLs (e_call rfl rfl (Encode_mg (w1 := w1) (w2 := w2) hm ⟨hw.1.mono fun e he => by simp [he], hw.2.mono fun e he => by simp [he]⟩) ?_)
 rintro v l' ⟨v1, le1, rfl, ho1, rfl⟩
 refine AU0 ?_
 refine JC.sub (l' := le1 ++ ((b, isC 183 ({ c with nn := c.nn + 1, sent := c.sent + 1, onc := ((c.nn + 1 : Nat) : Int), ob := ptr xb, ou := u, ofst := fs } : CC).cells) :: r)) (List.Sublist.append_left (List.sublist_cons_self _ _) _) ?_
 exact JC.ret (RT.one rfl rfl (by conv => lhs; whnf) ⟨le1, ho1, rfl⟩)
end Go.Proofs.YtbalcgjphkdecaaGreatDoor.To
namespace Go.Proofs.YtbalcgjphkdecaaGreatDoor.To
open Go.RowKit Go.Lg
set_option maxRecDepth 100000
def crC (s : P2) (kv : Int) (d : Value) (f : Nat → Value) (en : Int) : List Value := [sv s.1, sv s.2, iv kv, d] ++ (ck f ++ [iv en])
attribute [local irreducible] JC JL JD RN RT Eff Yld YldIf Tr partsL okR splitL wordB joinD fit betweenS laidS viaS De.wrapB De.num De.clampI K Se.sealB Pa.byts Au.byts RP.byts Mg.byts Se.inc tillM
theorem furF_ok {s : P2} {kv : Int} {dA vA : Option Addr} {dn dc vn vc : Nat} {f : Nat → Value} {en nc now : Int} {b bx bA bc bn : Nat} {c : CC} (hn : tm now) {bl au : Bs} {W : World} {l : List Ent} (h1 : (bx, isC 188 (crC s kv (.slice dA dn dc) f en)) ∈ l) (h2 : (bA, isC 26 [(.slice vA vn vc)]) ∈ l) (h3 : (bc, isC 52 [ptr b]) ∈ l) (h4 : (bn, isC 3 [iv now]) ∈ l) (h5 : (b, isC 183 c.cells) ∈ l) :
  Tr Pg 117 #[iv nc, ptr bx, ptr bA, ptr bc, ptr bn] W l fun v l' => v = .agg ((Mg.tg ⟨⟨s, kv, bl⟩, au, c.tg, tillM now, nc⟩).cells (.slice dA dn dc) (.slice vA vn vc)).toArray ∧ l' = l := by
 obtain ⟨i1, j1⟩ := List.mem_iff_getElem?.1 h1
 obtain ⟨i2, j2⟩ := List.mem_iff_getElem?.1 h2
 obtain ⟨i3, j3⟩ := List.mem_iff_getElem?.1 h3
 obtain ⟨i4, j4⟩ := List.mem_iff_getElem?.1 h4
 obtain ⟨i5, j5⟩ := List.mem_iff_getElem?.1 h5
 refine Tr.of_code (args := [_, _, _, _, _]) Tryz.func117 rfl Tryz.ntmps117 lE_ ?_
 refine AU0 ?_
 refine JLs (e_alloc fun b6 => ?_)
 refine AU0 ?_
 refine JC.drawn 13 rfl mixed ?_
 refine JDp 0 rfl (y_fieldAddr rfl) ?_
 refine JD.read 1 (i1 + 1) j1 rfl (by kernel_rfl) (by kernel_rfl) rfl (r_loadA (v := [sv s.1, sv s.2, iv kv, (.slice dA dn dc)]) rfl lE_ rfl) ?_
 refine JD.read 2 (i2 + 1) j2 rfl (by kernel_rfl) (by kernel_rfl) rfl (r_load1 (v := (.slice vA vn vc)) rfl rfl) ?_
 refine JD.read 3 (i3 + 1) j3 rfl (by kernel_rfl) (by kernel_rfl) rfl (r_load1 rfl rfl) ?_
 refine JDp 4 rfl (y_nilCheck rfl) ?_
 refine JDp 5 rfl (y_fieldAddr rfl) ?_
 refine JD.read 6 (i5 + 1) j5 rfl (by kernel_rfl) (by kernel_rfl) rfl (r_loadA (v := enc2 c.tg) rfl lE_ rfl) ?_
 refine JD.read 7 (i4 + 1) j4 rfl (by kernel_rfl) (by kernel_rfl) rfl (r_load1 rfl rfl) ?_
 refine JDp 9 rfl y_mv ?_
 refine JDe 8 rfl (e_call rfl rfl (till_ok hn) ?_)
 rintro v l' ⟨rfl, rfl⟩
 refine ⟨by repeat (first | exact TOk.nil | refine TOk.mem (List.mem_cons_of_mem _ (by assumption)) ?_), ?_⟩
 refine JDp 10 rfl (y_build (cells := #[sv s.1, sv s.2, iv kv, (.slice dA dn dc), (.slice vA vn vc), sv c.tg.1, sv c.tg.2, iv (tillM now), iv nc]) (by kernel_rfl)) ?_
 refine JDp 11 rfl (y_build (cells := ((Mg.tg ⟨⟨s, kv, bl⟩, au, c.tg, tillM now, nc⟩).cells (.slice dA dn dc) (.slice vA vn vc)).toArray) (by kernel_rfl)) ?_
 refine JDe 12 rfl (e_store 0 rfl rfl rfl (vs := (Mg.tg ⟨⟨s, kv, bl⟩, au, c.tg, tillM now, nc⟩).cells (.slice dA dn dc) (.slice vA vn vc)) rfl rfl rfl lE_ ⟨by repeat (first | exact TOk.nil | refine TOk.mem (List.mem_cons_of_mem _ (by assumption)) ?_), ?_⟩)
 refine JDd ?_
 refine RN.cast (l' := (b6, isC 207 ((Mg.tg ⟨⟨s, kv, bl⟩, au, c.tg, tillM now, nc⟩).cells (.slice dA dn dc) (.slice vA vn vc))) :: l) rfl ?_
 refine AU0 ?_
 exact JC.ret (ret_cell rfl rfl 0 rfl rfl rfl (List.sublist_cons_self _ _) ⟨rfl, rfl⟩)
theorem firF_ok {nc now : Int} {b bc bn : Nat} {c : CC} (hn : tm now) (hp : c.p.1.length ≤ 1000) {W : World} {l : List Ent} (h3 : (bc, isC 52 [ptr b]) ∈ l) (h4 : (bn, isC 3 [iv now]) ∈ l) (h5 : (b, isC 183 c.cells) ∈ l) :
  Tr Pg 119 #[iv nc, ptr bc, ptr bn] W l fun v l' => v = .agg ((Mg.aq ⟨c.p, (c.p.1, grantS ++ c.p.1), tillM now, nc⟩).cells nl nl).toArray ∧ l' = l := by
 obtain ⟨i3, j3⟩ := List.mem_iff_getElem?.1 h3
 obtain ⟨i4, j4⟩ := List.mem_iff_getElem?.1 h4
 obtain ⟨i5, j5⟩ := List.mem_iff_getElem?.1 h5
 refine Tr.of_code (args := [_, _, _]) Tryz.func119 rfl Tryz.ntmps119 lE_ ?_
 refine AU0 ?_
 refine JLs (e_alloc fun b6 => ?_)
 refine AU0 ?_
 refine JC.drawn 12 rfl mixed ?_
 refine JD.read 0 (i3 + 1) j3 rfl (by kernel_rfl) (by kernel_rfl) rfl (r_load1 rfl rfl) ?_
 refine JDp 1 rfl (y_nilCheck rfl) ?_
 refine JDp 2 rfl (y_fieldAddr rfl) ?_
 refine JD.read 3 (i5 + 1) j5 rfl (by kernel_rfl) (by kernel_rfl) rfl (r_loadA (v := enc2 c.p) rfl lE_ rfl) ?_
 refine JD.read 4 (i3 + 1) j3 rfl (by kernel_rfl) (by kernel_rfl) rfl (r_load1 rfl rfl) ?_
 refine JD.read 6 (i4 + 1) j4 rfl (by kernel_rfl) (by kernel_rfl) rfl (r_load1 rfl rfl) ?_
 refine JDp 8 rfl y_mv ?_
 refine JDe 5 rfl (e_call rfl rfl (home_ok (b := b) (c := c) hp (List.mem_cons_of_mem _ h5)) ?_)
 rintro v l' ⟨rfl, rfl⟩
 refine ⟨by repeat (first | exact TOk.nil | refine TOk.mem (List.mem_cons_of_mem _ (by assumption)) ?_), ?_⟩
 refine JDe 7 rfl (e_call rfl rfl (till_ok hn) ?_)
 rintro v l' ⟨rfl, rfl⟩
 refine ⟨by repeat (first | exact TOk.nil | refine TOk.mem (List.mem_cons_of_mem _ (by assumption)) ?_), ?_⟩
 refine JDp 9 rfl (y_build (cells := #[sv c.p.1, sv c.p.2, sv c.p.1, sv (grantS ++ c.p.1), iv (tillM now), iv nc]) (by kernel_rfl)) ?_
 refine JDp 10 rfl (y_build (cells := ((Mg.aq ⟨c.p, (c.p.1, grantS ++ c.p.1), tillM now, nc⟩).cells nl nl).toArray) (by kernel_rfl)) ?_
 refine JDe 11 rfl (e_store 0 rfl rfl rfl (vs := (Mg.aq ⟨c.p, (c.p.1, grantS ++ c.p.1), tillM now, nc⟩).cells nl nl) rfl rfl rfl lE_ ⟨by repeat (first | exact TOk.nil | refine TOk.mem (List.mem_cons_of_mem _ (by assumption)) ?_), ?_⟩)
 refine JDd ?_
 refine RN.cast (l' := (b6, isC 207 ((Mg.aq ⟨c.p, (c.p.1, grantS ++ c.p.1), tillM now, nc⟩).cells nl nl)) :: l) rfl ?_
 refine AU0 ?_
 exact JC.ret (ret_cell rfl rfl 0 rfl rfl rfl (List.sublist_cons_self _ _) ⟨rfl, rfl⟩)
set_option maxHeartbeats 2000000 in
theorem further_ok {b : Nat} {c : CC} {z : S} {s : P2} {kv : Int} {bl : Bs} {d : Value} {ses : Nat} {en now : Int} (hn : tm now) (hns : c.ns ≤ 1000000) (hnn : c.nn ≤ 1000000) (hse : c.sent ≤ 1000000) (hmg : ((Mg.tg ⟨⟨s, kv, bl⟩, Se.sealB (K ses) 7 (BitVec.ofNat 64 (c.ns + 1)) (Au.mk c.p now 0).byts, c.tg, tillM now, ((c.nn + 1 : Nat) : Int)⟩)).good) (hag : (Au.mk c.p now 0).good) {vis : List S} (hvis : vis.length ≤ 10) {W : World} {lv r : List Ent} (ho : Lg.Own 9 1 c.vv vis.length (vis.map sv) lv) (hd : BV W r d bl) :
  Tr Pg 89 #[ptr b, sv z, .agg (crC s kv d (kf (K ses)) en).toArray, iv now] W (clE b c :: (lv ++ r)) fun v l' => ∃ v1 le xb kb vv lv', v = .tuple #[sv z, v1] ∧ OwnB v1 ((Mg.tg ⟨⟨s, kv, bl⟩, Se.sealB (K ses) 7 (BitVec.ofNat 64 (c.ns + 1)) (Au.mk c.p now 0).byts, c.tg, tillM now, ((c.nn + 1 : Nat) : Int)⟩)).byts le ∧ Lg.Own 9 1 vv (vis ++ [z]).length ((vis ++ [z]).map sv) lv' ∧
   l' = le ++ (clE b { c with ns := c.ns + 1, vv := vv, nn := c.nn + 1, sent := c.sent + 1, onc := ((c.nn + 1 : Nat) : Int), ob := ptr xb, ou := 8, ofst := false } :: (lv' ++ ((xb, isBx kb (K ses)) :: (kb, isKy (K ses)) :: r))) := by
 obtain ⟨dA, dc, rfl, hds⟩ := hd
 obtain ⟨dn, hdn⟩ : ∃ dn, bl.length = dn := ⟨_, rfl⟩
 rw [hdn] at hds ⊢
 unfold clE
 refine Tr.of_code (args := [_, _, _, _]) Tryz.func89 rfl Tryz.ntmps89 lE_ ?_
 refine AU0 ?_
 refine JLs (e_box (cs := [ptr b]) rfl rfl fun b4 => ?_)
 refine JLs (e_box (cs := crC s kv (.slice dA dn dc) (kf (K ses)) en) rfl rfl fun b6 => ?_)
 refine JLs (e_box (cs := [iv now]) rfl rfl fun b7 => ?_)
 refine AU2 ?_
 refine JLs (e_call (vs := [.agg ((K ses).map bv).toArray]) rfl (by rw [ck_eq (K_len ses)]; rfl) (BNew_ok (K_len ses)) ?_)
 rintro v l' ⟨xb, kb, rfl, rfl⟩
 refine JL.perm (l' := (b7, isC 3 [iv now]) :: (b6, isC 188 (crC s kv (.slice dA dn dc) (kf (K ses)) en)) :: (b4, isC 52 [ptr b]) :: (xb, isBx kb (K ses)) :: (kb, isKy (K ses)) :: (b, isC 183 c.cells) :: (lv ++ r)) prm_ ?_
 refine AU3 ?_
 refine JLs (e_call rfl rfl (Tr.perm (l' := clE b c :: (xb, isBx kb (K ses)) :: (kb, isKy (K ses)) :: ((b7, isC 3 [iv now]) :: (b6, isC 188 (crC s kv (.slice dA dn dc) (kf (K ses)) en)) :: (b4, isC 52 [ptr b]) :: (lv ++ r))) (by unfold clE; exact prm_) (authn_ok (c := c) (K_len ses) (u := 7) (by decide) hag hns)) ?_)
 rintro v l' ⟨le1, ho1, rfl⟩
 obtain ⟨A3, c3, rfl, hs3, hc3, hn3⟩ := De.own_src (W := W) ho1
 refine JLs (e_alloc fun b11 => ?_)
 refine JLs (e_store 0 rfl rfl rfl (vs := [.slice A3 (Se.sealB (K ses) 7 (BitVec.ofNat 64 (c.ns + 1)) (Au.mk c.p now 0).byts).length c3]) rfl rfl rfl lE_ ?_)
 refine JL.cast (l' := (b11, isC 26 [.slice A3 (Se.sealB (K ses) 7 (BitVec.ofNat 64 (c.ns + 1)) (Au.mk c.p now 0).byts).length c3]) :: (le1 ++ (clE b { c with ns := c.ns + 1 } :: (xb, isBx kb (K ses)) :: (kb, isKy (K ses)) :: ((b7, isC 3 [iv now]) :: (b6, isC 188 (crC s kv (.slice dA dn dc) (kf (K ses)) en)) :: (b4, isC 52 [ptr b]) :: (lv ++ r))))) rfl ?_
 refine JL.perm (l' := (b4, isC 52 [ptr b]) :: clE b { c with ns := c.ns + 1 } :: (b11, isC 26 [.slice A3 (Se.sealB (K ses) 7 (BitVec.ofNat 64 (c.ns + 1)) (Au.mk c.p now 0).byts).length c3]) :: (b7, isC 3 [iv now]) :: (b6, isC 188 (crC s kv (.slice dA dn dc) (kf (K ses)) en)) :: (lv ++ (le1 ++ ((xb, isBx kb (K ses)) :: (kb, isKy (K ses)) :: r)))) prm_ ?_
 unfold clE
 refine AU0 ?_
 refine JC.drawn 11 rfl mixed ?_
 refine JDr 0 0 rfl rfl (r_load1 rfl rfl) ?_
 refine JDr 1 0 rfl rfl (r_load1 rfl rfl) ?_
 refine JDp 2 rfl (y_nilCheck rfl) ?_
 refine JDp 3 rfl (y_fieldAddr rfl) ?_
 refine JDr 4 1 rfl rfl (r_load1 rfl rfl) ?_
 refine JDp 5 rfl y_mv ?_
 refine JDe 6 rfl (e_buildSlice (cells := [sv z]) [sv z] rfl lE_ rfl (fun u hu => by cases List.mem_singleton.1 hu; rfl) rfl fun bs => ⟨tok_, ?_⟩)
 refine JDe 7 rfl (e_appendP [_, _, _, _, _, _] lv rfl rfl ho rfl (news := [sv z]) rfl (Src.whole (List.mem_cons_self ..)) (fun u hu => by cases List.mem_singleton.1 hu; rfl) (by omega) (by unfold maxLen; omega) fun v' lv' ho' _ => ⟨tok_, ?_⟩)
 obtain ⟨g, cap, rfl, hc1, hc2, -⟩ := De.own_some (id ho') (Nat.succ_pos _)
 refine JDp 8 rfl (y_nilCheck rfl) ?_
 refine JDp 9 rfl (y_fieldAddr rfl) ?_
 refine JDe 10 rfl (e_store 2 rfl rfl rfl (vs := [.slice (some ⟨g, 0, none⟩) (vis.length + 1) cap]) rfl rfl rfl lE_ ⟨tok_, ?_⟩)
 refine JDd ?_
 have hvz : (vis ++ [z]).map sv = vis.map sv ++ [sv z] := by rw [List.map_append]; rfl
 refine RN.cast (l' := _ :: (b4, isC 52 [ptr b]) :: (b, isC 183 ({ c with ns := c.ns + 1, vv := .slice (some ⟨g, 0, none⟩) (vis.length + 1) cap } : CC).cells) :: (b11, isC 26 [.slice A3 (Se.sealB (K ses) 7 (BitVec.ofNat 64 (c.ns + 1)) (Au.mk c.p now 0).byts).length c3]) :: (b7, isC 3 [iv now]) :: (b6, isC 188 (crC s kv (.slice dA dn dc) (kf (K ses)) en)) :: (lv' ++ (le1 ++ ((xb, isBx kb (K ses)) :: (kb, isKy (K ses)) :: r)))) rfl ?_
 refine RN.sub (List.sublist_cons_self _ _) ?_
 refine RN.perm (l' := (b4, isC 52 [ptr b]) :: clE b { c with ns := c.ns + 1, vv := .slice (some ⟨g, 0, none⟩) (vis.length + 1) cap } :: (b11, isC 26 [.slice A3 (Se.sealB (K ses) 7 (BitVec.ofNat 64 (c.ns + 1)) (Au.mk c.p now 0).byts).length c3]) :: (b7, isC 3 [iv now]) :: (b6, isC 188 (crC s kv (.slice dA dn dc) (kf (K ses)) en)) :: (lv' ++ (le1 ++ ((xb, isBx kb (K ses)) :: (kb, isKy (K ses)) :: r)))) (by unfold clE; exact List.Perm.refl _) ?_
 refine AU1 ?_
 refine JLp (y_build (cells := #[iv 0, ptr xb, iv 8, .bool false]) (by kernel_rfl)) ?_
 repeat (first | refine JLp (y_makeFunc (v := .func (.func 117) #[] #[ptr b6, ptr b11, ptr b4, ptr b7]) (by simp only [List.map_toArray, List.map_cons, List.map_nil]; rfl)) ?_ | refine AS0 ?_)
 have hw2 : BV W le1 (.slice A3 (Se.sealB (K ses) 7 (BitVec.ofNat 64 (c.ns + 1)) (Au.mk c.p now 0).byts).length c3) (Se.sealB (K ses) 7 (BitVec.ofNat 64 (c.ns + 1)) (Au.mk c.p now 0).byts) := ⟨A3, c3, rfl, hs3, hc3, hn3⟩
 have hw1 : BV W r (.slice dA dn dc) bl := ⟨dA, dc, by rw [hdn], by rw [hdn]; exact hds⟩
 refine JLs (e_call rfl rfl (Tr.perm (l' := clE b { c with ns := c.ns + 1, vv := .slice (some ⟨g, 0, none⟩) (vis.length + 1) cap } :: ((b4, isC 52 [ptr b]) :: (b11, isC 26 [.slice A3 (Se.sealB (K ses) 7 (BitVec.ofNat 64 (c.ns + 1)) (Au.mk c.p now 0).byts).length c3]) :: (b7, isC 3 [iv now]) :: (b6, isC 188 (crC s kv (.slice dA dn dc) (kf (K ses)) en)) :: (lv' ++ (le1 ++ ((xb, isBx kb (K ses)) :: (kb, isKy (K ses)) :: r))))) prm_ (sends_ok (c := { c with ns := c.ns + 1, vv := .slice (some ⟨g, 0, none⟩) (vis.length + 1) cap }) (g := 117) (cap := #[ptr b6, ptr b11, ptr b4, ptr b7]) (u := 8) (fs := false) inferInstance (m := (Mg.tg ⟨⟨s, kv, bl⟩, Se.sealB (K ses) 7 (BitVec.ofNat 64 (c.ns + 1)) (Au.mk c.p now 0).byts, c.tg, tillM now, ((c.nn + 1 : Nat) : Int)⟩)) hmg (w1 := (.slice dA dn dc)) (w2 := .slice A3 (Se.sealB (K ses) 7 (BitVec.ofNat 64 (c.ns + 1)) (Au.mk c.p now 0).byts).length c3) ⟨hw1.mono fun e he => by simp [he], hw2.mono fun e he => by simp [he]⟩ hnn hse
  (fun r' hr' hm => furF_ok (c := { c with ns := c.ns + 1, vv := .slice (some ⟨g, 0, none⟩) (vis.length + 1) cap, nn := c.nn + 1, sent := c.sent + 1, onc := ((c.nn + 1 : Nat) : Int), ob := ptr xb, ou := 8, ofst := false }) hn (hr' (b6, isC 188 (crC s kv (.slice dA dn dc) (kf (K ses)) en)) (by simp)) (hr' (b11, isC 26 [.slice A3 (Se.sealB (K ses) 7 (BitVec.ofNat 64 (c.ns + 1)) (Au.mk c.p now 0).byts).length c3]) (by simp)) (hr' (b4, isC 52 [ptr b]) (by simp)) (hr' (b7, isC 3 [iv now]) (by simp)) hm))) ?_)
 rintro v l' ⟨le5, ho5, rfl⟩
 refine AU0 ?_
 refine JC.sub (l' := le5 ++ (clE b { c with ns := c.ns + 1, vv := .slice (some ⟨g, 0, none⟩) (vis.length + 1) cap, nn := c.nn + 1, sent := c.sent + 1, onc := ((c.nn + 1 : Nat) : Int), ob := ptr xb, ou := 8, ofst := false } :: (lv' ++ ((xb, isBx kb (K ses)) :: (kb, isKy (K ses)) :: r)))) (List.Sublist.append_left (List.Sublist.cons_cons _ ((List.Sublist.append_left (List.sublist_append_right le1 _) _).trans (List.sublist_append_right [_, _, _, _] _))) _) ?_
 exact JC.ret (RT.two rfl rfl (v := sv z) (v' := v) rfl rfl ⟨_, le5, xb, kb, _, lv', rfl, ho5, by rw [hvz, List.length_append]; exact ho', rfl⟩)
set_option maxHeartbeats 2000000 in
theorem first_ok {b : Nat} {c : CC} {kk : Bs} (hk : kk.length = 32) (hf : c.f = kf kk) {now : Int} (hn : tm now) (hnn : c.nn ≤ 1000000) (hse : c.sent ≤ 1000000) (hmg : ((Mg.aq ⟨c.p, (c.p.1, grantS ++ c.p.1), tillM now, ((c.nn + 1 : Nat) : Int)⟩)).good) (hp : c.p.1.length ≤ 1000) {W : World} {r : List Ent} :
  Tr Pg 90 #[ptr b, iv now] W (clE b c :: r) fun v l' => ∃ v1 le xb kb, v = .tuple #[sv c.p.1, v1] ∧ OwnB v1 ((Mg.aq ⟨c.p, (c.p.1, grantS ++ c.p.1), tillM now, ((c.nn + 1 : Nat) : Int)⟩)).byts le ∧
   l' = le ++ (clE b { c with nn := c.nn + 1, sent := c.sent + 1, onc := ((c.nn + 1 : Nat) : Int), ob := ptr xb, ou := 3, ofst := true } :: (xb, isBx kb kk) :: (kb, isKy kk) :: r) := by
 unfold clE
 refine Tr.of_code (args := [_, _]) Tryz.func90 rfl Tryz.ntmps90 lE_ ?_
 refine AU0 ?_
 refine JLs (e_box (cs := [ptr b]) rfl rfl fun b2 => ?_)
 refine JLs (e_box (cs := [iv now]) rfl rfl fun b3 => ?_)
 refine AU0 ?_
 refine JC.drawn 16 rfl mixed ?_
 refine JDr 0 1 rfl rfl (r_load1 rfl rfl) ?_
 refine JDp 1 rfl (y_nilCheck rfl) ?_
 refine JDp 2 rfl (y_fieldAddr rfl) ?_
 refine JDp 3 rfl (y_fieldAddr rfl) ?_
 refine JDr 5 1 rfl rfl (r_load1 rfl rfl) ?_
 refine JDr 6 1 rfl rfl (r_load1 rfl rfl) ?_
 refine JDp 7 rfl (y_nilCheck rfl) ?_
 refine JDp 8 rfl (y_fieldAddr rfl) ?_
 refine JDr 9 2 rfl rfl (r_loadA rfl lE_ rfl) ?_
 refine JDp 12 rfl (y_makeFunc (v := .func (.func 119) #[] #[ptr b2, ptr b3]) (by simp only [List.map_toArray, List.map_cons, List.map_nil]; rfl)) ?_
 refine JD.eff2 4 10 (by kernel_rfl) rfl rfl rfl rfl (Eff.read 2 rfl (r_load1 (v := sv c.p.1) rfl rfl) ⟨tok_, ?_⟩) (e_call (vs := [.agg (kk.map bv).toArray]) rfl (by rw [ck_eq hk, ← hf]; rfl) (BNew_ok hk) ?_)
 ·refine JDe 10 rfl (e_call (vs := [.agg (kk.map bv).toArray]) rfl (by rw [ck_eq hk, ← hf]; rfl) (BNew_ok hk) ?_)
  rintro v l' ⟨xb, kb, rfl, rfl⟩
  refine ⟨tok_, ?_⟩
  refine JDp 11 rfl (y_build (cells := #[iv 0, ptr xb, iv 3, .bool true]) (by kernel_rfl)) ?_
  refine JDe 13 rfl (e_call rfl rfl (Tr.perm (l' := clE b c :: ((xb, isBx kb kk) :: (kb, isKy kk) :: (b3, isC 3 [iv now]) :: (b2, isC 52 [ptr b]) :: r)) (by unfold clE; exact prm_) (sends_ok (c := c) (g := 119) (cap := #[ptr b2, ptr b3]) (u := 3) (fs := true) inferInstance (m := (Mg.aq ⟨c.p, (c.p.1, grantS ++ c.p.1), tillM now, ((c.nn + 1 : Nat) : Int)⟩)) hmg (w1 := nl) (w2 := nl) ⟨bv_nl .., bv_nl ..⟩ hnn hse (fun r' hr' hm => firF_ok (c := { c with nn := c.nn + 1, sent := c.sent + 1, onc := ((c.nn + 1 : Nat) : Int), ob := ptr xb, ou := ((3 : Nat) : Int), ofst := true }) hn hp (hr' _ (by simp)) (hr' _ (by simp)) hm))) ?_)
  rintro v l' ⟨le5, ho5, rfl⟩
  refine ⟨tok_, ?_⟩
  refine JDp 14 rfl y_as ?_
  refine JDp 15 rfl y_as ?_
  refine JDd ?_
  refine AU0 ?_
  refine JC.sub (l' := le5 ++ (clE b { c with nn := c.nn + 1, sent := c.sent + 1, onc := ((c.nn + 1 : Nat) : Int), ob := ptr xb, ou := ((3 : Nat) : Int), ofst := true } :: ((xb, isBx kb kk) :: (kb, isKy kk) :: r))) (List.Sublist.append_left (List.Sublist.cons_cons _ (List.Sublist.cons_cons _ (List.Sublist.cons_cons _ (List.sublist_append_right [_, _] r)))) _) ?_
  exact JC.ret (RT.two rfl rfl (v := sv c.p.1) (v' := v) rfl rfl ⟨_, le5, xb, kb, rfl, ho5, rfl⟩)
 ·rintro v l' ⟨xb, kb, rfl, rfl⟩
  refine ⟨tok_, ?_⟩
  refine JDp 11 rfl (y_build (cells := #[iv 0, ptr xb, iv 3, .bool true]) (by kernel_rfl)) ?_
  refine JD.eff2 4 13 (by kernel_rfl) rfl rfl rfl rfl (Eff.read 4 rfl (r_load1 (v := sv c.p.1) rfl rfl) ⟨tok_, ?_⟩) (e_call rfl rfl (Tr.perm (l' := clE b c :: ((xb, isBx kb kk) :: (kb, isKy kk) :: (b3, isC 3 [iv now]) :: (b2, isC 52 [ptr b]) :: r)) (by unfold clE; exact prm_) (sends_ok (c := c) (g := 119) (cap := #[ptr b2, ptr b3]) (u := 3) (fs := true) inferInstance (m := (Mg.aq ⟨c.p, (c.p.1, grantS ++ c.p.1), tillM now, ((c.nn + 1 : Nat) : Int)⟩)) hmg (w1 := nl) (w2 := nl) ⟨bv_nl .., bv_nl ..⟩ hnn hse (fun r' hr' hm => firF_ok (c := { c with nn := c.nn + 1, sent := c.sent + 1, onc := ((c.nn + 1 : Nat) : Int), ob := ptr xb, ou := ((3 : Nat) : Int), ofst := true }) hn hp (hr' _ (by simp)) (hr' _ (by simp)) hm))) ?_)
  ·refine JDe 13 rfl (e_call rfl rfl (Tr.perm (l' := clE b c :: ((xb, isBx kb kk) :: (kb, isKy kk) :: (b3, isC 3 [iv now]) :: (b2, isC 52 [ptr b]) :: r)) (by unfold clE; exact prm_) (sends_ok (c := c) (g := 119) (cap := #[ptr b2, ptr b3]) (u := 3) (fs := true) inferInstance (m := (Mg.aq ⟨c.p, (c.p.1, grantS ++ c.p.1), tillM now, ((c.nn + 1 : Nat) : Int)⟩)) hmg (w1 := nl) (w2 := nl) ⟨bv_nl .., bv_nl ..⟩ hnn hse (fun r' hr' hm => firF_ok (c := { c with nn := c.nn + 1, sent := c.sent + 1, onc := ((c.nn + 1 : Nat) : Int), ob := ptr xb, ou := ((3 : Nat) : Int), ofst := true }) hn hp (hr' _ (by simp)) (hr' _ (by simp)) hm))) ?_)
   rintro v l' ⟨le5, ho5, rfl⟩
   refine ⟨tok_, ?_⟩
   refine JDp 14 rfl y_as ?_
   refine JDp 15 rfl y_as ?_
   refine JDd ?_
   refine AU0 ?_
   refine JC.sub (l' := le5 ++ (clE b { c with nn := c.nn + 1, sent := c.sent + 1, onc := ((c.nn + 1 : Nat) : Int), ob := ptr xb, ou := ((3 : Nat) : Int), ofst := true } :: ((xb, isBx kb kk) :: (kb, isKy kk) :: r))) (List.Sublist.append_left (List.Sublist.cons_cons _ (List.Sublist.cons_cons _ (List.Sublist.cons_cons _ (List.sublist_append_right [_, _] r)))) _) ?_
   exact JC.ret (RT.two rfl rfl (v := sv c.p.1) (v' := v) rfl rfl ⟨_, le5, xb, kb, rfl, ho5, rfl⟩)
  ·rintro v l' ⟨le5, ho5, rfl⟩
   refine ⟨tok_, ?_⟩
   refine JDe 4 rfl (Eff.perm (l' := clE b { c with nn := c.nn + 1, sent := c.sent + 1, onc := ((c.nn + 1 : Nat) : Int), ob := ptr xb, ou := ((3 : Nat) : Int), ofst := true } :: (le5 ++ ((xb, isBx kb kk) :: (kb, isKy kk) :: (b3, isC 3 [iv now]) :: (b2, isC 52 [ptr b]) :: r))) prm_ (Eff.read 0 rfl (r_load1 (v := sv c.p.1) rfl rfl) ⟨tok_, ?_⟩))
   refine JD.perm (l' := le5 ++ (clE b { c with nn := c.nn + 1, sent := c.sent + 1, onc := ((c.nn + 1 : Nat) : Int), ob := ptr xb, ou := ((3 : Nat) : Int), ofst := true } :: (xb, isBx kb kk) :: (kb, isKy kk) :: (b3, isC 3 [iv now]) :: (b2, isC 52 [ptr b]) :: r)) prm_ ?_
   refine JDp 14 rfl y_as ?_
   refine JDp 15 rfl y_as ?_
   refine JDd ?_
   refine AU0 ?_
   refine JC.sub (l' := le5 ++ (clE b { c with nn := c.nn + 1, sent := c.sent + 1, onc := ((c.nn + 1 : Nat) : Int), ob := ptr xb, ou := ((3 : Nat) : Int), ofst := true } :: ((xb, isBx kb kk) :: (kb, isKy kk) :: r))) (List.Sublist.append_left (List.Sublist.cons_cons _ (List.Sublist.cons_cons _ (List.Sublist.cons_cons _ (List.sublist_append_right [_, _] r)))) _) ?_
   exact JC.ret (RT.two rfl rfl (v := sv c.p.1) (v' := v) rfl rfl ⟨_, le5, xb, kb, rfl, ho5, rfl⟩)
end Go.Proofs.YtbalcgjphkdecaaGreatDoor.To
namespace Go.Proofs.YtbalcgjphkdecaaGreatDoor.To
open Go.RowKit Go.Lg
set_option maxRecDepth 100000
def CrS.crd (x : CrS) : Ca.Crd := ⟨ba x.tk.sv_.1, ba x.tk.sv_.2, (x.tk.kv : Int), fun i => (((K x.ses).getD i 0).toNat : Int), x.en, x.tk.tk.bl⟩
def caL (l : List (P2 × CrS)) : List Ca.It := l.map fun y => ⟨ba y.1.1, ba y.1.2, y.2.crd⟩
def outN (o : Option OutS) : Int := match o with | some x => x.nc | none => 0
def outU (o : Option OutS) : Int := match o with | some x => (x.u : Int) | none => 0
def outF (o : Option OutS) : Bool := match o with | some x => x.fst | none => false
def OutB (o : Option OutS) (ob : Value) (OH : List Ent) : Prop := match o with
 | none => ob = .pointer none ∧ OH = []
 | some x => ∃ xb kb, ob = ptr xb ∧ OH = [(xb, isBx kb (K x.bk)), (kb, isKy (K x.bk))]
def ccOf (c : ClS) (cab : Nat) (vv ob : Value) : CC := ⟨c.p, kf (K c.k), ptr cab, c.nn, c.ns, c.nq, c.st, c.sent, c.tg, vv, outN c.out, ob, outU c.out, outF c.out⟩
def ClB (W : World) (b : Nat) (c : ClS) (H : List Ent) : Prop := ∃ cab CH vv lv ob OH, Ca.CBox W cab (caL c.ca) CH ∧ Lg.Own 9 1 vv c.vis.length (c.vis.map sv) lv ∧ OutB c.out ob OH ∧ H = clE b (ccOf c cab vv ob) :: (CH ++ (lv ++ OH))
attribute [local irreducible] JC JL JD RN RT Eff Yld YldIf Tr partsL okR splitL wordB joinD fit betweenS laidS viaS De.wrapB De.num De.clampI K Se.sealB Pa.byts Au.byts RP.byts Mg.byts Se.inc tillM Ca.CBox
set_option maxHeartbeats 2000000 in
theorem Chase_ok {c c' : ClS} {t : P2} {now : Int} {z : S} {m : MS} (h : chaseM c t now = some (c', z, m)) {b : Nat} {H r : List Ent} {W : World} (hB : ClB W b c H) :
  Tr Pg 48 #[ptr b, pv t, iv now] W (H ++ r) fun v l' => ∃ v1 le H', v = .tuple #[sv z, v1, iv 0] ∧ OwnB v1 m.mg.byts le ∧ ClB W b c' H' ∧ l' = le ++ (H' ++ r) := by
 unfold chaseM at h
 split at h
 case isFalse => cases h
 rename_i hc
 simp only [Bool.and_eq_true, decide_eq_true_eq] at hc
 obtain ⟨⟨⟨⟨⟨⟨⟨h1, h2⟩, h3⟩, h4⟩, h5⟩, h6⟩, h7⟩, h8⟩ := hc
 cases h
 have hnow := tmb_spec h3
 have hnn := nb_spec h5
 have hg := MS.okb_spec h8
 obtain ⟨cab, CH, vv, lv, ob, OH, hC, ho, hO, rfl⟩ := hB
 have hC0 := hC
 rw [h4] at hC
 refine Tr.of_code (args := [_, _, _]) Tryz.func48 rfl Tryz.ntmps48 lE_ ?_
 rw [List.cons_append]
 unfold clE
 have hst : (ccOf c cab vv ob).cells = ({ ccOf c cab vv ob with st := 0 } : CC).cells := by unfold ccOf CC.cells; dsimp only; rw [h1]
 rw [hst]
 refine AU0 ?_
 refine JLs (e_box (cs := enc2 t) rfl rfl fun b4 => ?_)
 repeat (first | refine JLp (y_eql (a := 0) (b := 1) rfl rfl (decide_eq_false (by omega))) ?_ | refine AS2 ?_)
 refine JLs (e_call rfl rfl (isUser_yes h2) ?_)
 rintro v l' ⟨rfl, rfl⟩
 refine AU0 ?_
 refine JLs (e_call rfl rfl (CTime_yes hnow) ?_)
 rintro v l' ⟨rfl, rfl⟩
 refine AU0 ?_
 refine JC.drawn 21 rfl mixed ?_
 refine JDp 0 rfl y_mv ?_
 refine JDp 1 rfl y_mv ?_
 refine JDp 2 rfl y_mv ?_
 refine JDp 3 rfl y_mv ?_
 refine JDp 4 rfl y_mv ?_
 refine JDr 5 0 rfl rfl (r_loadA rfl lE_ rfl) ?_
 refine JDp 6 rfl (y_nilCheck rfl) ?_
 refine JDp 7 rfl (y_fieldAddr rfl) ?_
 refine JDe 8 rfl (e_store 1 rfl rfl rfl (vs := [iv 1]) rfl rfl rfl lE_ ⟨tok_, ?_⟩)
 refine JDp 9 rfl (y_nilCheck rfl) ?_
 refine JDp 10 rfl (y_fieldAddr rfl) ?_
 refine JDe 11 rfl (e_store 1 rfl rfl rfl (vs := [iv 0]) rfl rfl rfl lE_ ⟨tok_, ?_⟩)
 refine JDp 12 rfl (y_nilCheck rfl) ?_
 refine JDp 13 rfl (y_fieldAddr rfl) ?_
 refine JDe 14 rfl (e_store 1 rfl rfl rfl (vs := [iv 0]) rfl rfl rfl lE_ ⟨tok_, ?_⟩)
 refine JDp 15 rfl (y_nilCheck rfl) ?_
 refine JDp 16 rfl (y_fieldAddr rfl) ?_
 refine JDe 17 rfl (e_store 1 rfl rfl rfl (vs := enc2 t) rfl rfl rfl lE_ ⟨tok_, ?_⟩)
 refine JDp 18 rfl (y_nilCheck rfl) ?_
 refine JDp 19 rfl (y_fieldAddr rfl) ?_
 refine JDe 20 rfl (e_store 1 rfl rfl rfl (vs := [nl]) rfl rfl rfl lE_ ⟨tok_, ?_⟩)
 refine JDd ?_
 refine RN.cast (l' := (b4, isC 48 (enc2 t)) :: clE b ({ ccOf c cab vv ob with st := 1, sent := 0, tg := t, vv := nl } : CC) :: (CH ++ (lv ++ OH) ++ r)) rfl ?_
 have hget : ∀ r', Tr Pg 87 #[ptr cab, pv (c.p.1, grantS ++ c.p.1), iv now] W (CH ++ r') fun v l' => v = .tuple #[.agg Ca.zcr.toArray, .bool false] ∧ l' = CH ++ r' := fun r' =>
  (Ca.Get_ok (p := ba c.p.1) (q := ba (grantS ++ c.p.1)) (now := now) hC).mono fun v l' x => by
   rcases x with ⟨cc, hl, -⟩ | ⟨-, h⟩
   ·cases hl
   ·exact h
 unfold clE
 refine AU0 ?_
 refine JC.drawn 14 rfl mixed ?_
 refine JDp 0 rfl y_mv ?_
 refine JDp 1 rfl (y_nilCheck rfl) ?_
 refine JDp 2 rfl (y_fieldAddr rfl) ?_
 refine JDr 3 1 rfl rfl (r_load1 rfl rfl) ?_
 refine JDp 4 rfl y_mv ?_
 refine JDp 6 rfl y_mv ?_
 refine JD.cut (fun f l' => ∃ b9, FrOk f [(0, ptr b), (2, iv now), (9, ptr b9), (58, .agg Ca.zcr.toArray), (59, .bool false)] ∧ l'.Perm ((b9, isC 188 [.string ByteArray.empty, .string ByteArray.empty, .int .i64 0, .slice none 0 0, .int .u8 0, .int .u8 0, .int .u8 0, .int .u8 0, .int .u8 0, .int .u8 0, .int .u8 0, .int .u8 0, .int .u8 0, .int .u8 0, .int .u8 0, .int .u8 0, .int .u8 0, .int .u8 0, .int .u8 0, .int .u8 0, .int .u8 0, .int .u8 0, .int .u8 0, .int .u8 0, .int .u8 0, .int .u8 0, .int .u8 0, .int .u8 0, .int .u8 0, .int .u8 0, .int .u8 0, .int .u8 0, .int .u8 0, .int .u8 0, .int .u8 0, .int .u8 0, .int .i64 0]) :: (b4, isC 48 (enc2 t)) :: clE b ({ ccOf c cab vv ob with st := 1, sent := 0, tg := t, vv := nl } : CC) :: (CH ++ (lv ++ OH ++ r)))) 2 #[true, true, true, true, true, true, true, true, true, true, true, true, false, false] ?_ ?_
 ·rintro f l' ⟨b9, hf, hp⟩
  refine JD.perm hp (JD.frame _ hf fun f' => ?_)
  refine JDe 12 rfl (e_store 0 rfl rfl rfl (vs := Ca.zcr) rfl rfl rfl lE_ ⟨by unfold clE; repeat (first | exact TOk.nil | refine TOk.was ?_ | refine TOk.past (by decide +kernel) ?_ | refine TOk.mem (by simp) ?_), ?_⟩)
  refine JDp 13 rfl y_as ?_
  refine JDd ?_
  refine RN.cast (l' := (b9, isC 188 Ca.zcr) :: (b4, isC 48 (enc2 t)) :: clE b ({ ccOf c cab vv ob with st := 1, sent := 0, tg := t, vv := nl } : CC) :: (CH ++ (lv ++ OH ++ r))) rfl ?_
  refine AU0 ?_
  refine JLs (e_call rfl rfl (Tr.perm (l' := clE b ({ ccOf c cab vv ob with st := 1, sent := 0, tg := t, vv := nl } : CC) :: ((b9, isC 188 Ca.zcr) :: (b4, isC 48 (enc2 t)) :: (CH ++ (lv ++ OH ++ r)))) prm_ (first_ok (c := ({ ccOf c cab vv ob with st := 1, sent := 0, tg := t, vv := nl } : CC)) (K_len c.k) rfl hnow hnn (Nat.zero_le _) hg h7)) ?_)
  rintro v l' ⟨v1, le, xb, kb, rfl, ho1, rfl⟩
  refine AU0 ?_
  refine JC.sub (l' := le ++ (clE b ({ ccOf c cab vv ob with st := 1, sent := 0 + 1, tg := t, vv := nl, nn := c.nn + 1, onc := ((c.nn + 1 : Nat) : Int), ob := ptr xb, ou := 3, ofst := true } : CC) :: (xb, isBx kb (K c.k)) :: (kb, isKy (K c.k)) :: (CH ++ r))) (List.Sublist.append_left (List.Sublist.cons_cons _ (List.Sublist.cons_cons _ (List.Sublist.cons_cons _ ((List.Sublist.append_left (List.sublist_append_right _ r) _).trans (List.sublist_append_right [_, _] _))))) _) ?_
  refine JC.perm (l' := le ++ ((clE b ({ ccOf c cab vv ob with st := 1, sent := 0 + 1, tg := t, vv := nl, nn := c.nn + 1, onc := ((c.nn + 1 : Nat) : Int), ob := ptr xb, ou := 3, ofst := true } : CC) :: (CH ++ ([] ++ [(xb, isBx kb (K c.k)), (kb, isKy (K c.k))]))) ++ r)) prm_ ?_
  exact JC.ret (RT.three rfl rfl (v := sv c.p.1) (v' := v1) (v'' := iv 0) rfl rfl rfl ⟨v1, le, _, rfl, ho1, ⟨cab, CH, nl, [], ptr xb, _, hC0, Lg.Own.nil .., ⟨xb, kb, rfl, rfl⟩, rfl⟩, rfl⟩)
 intro hT
 refine JD.eff2 5 11 (by kernel_rfl) rfl rfl rfl rfl (e_call rfl rfl (home_ok (b := b) (c := ({ ccOf c cab vv ob with st := 1, sent := 0, tg := t, vv := nl } : CC)) h7 (by unfold clE; simp)) ?_) (e_alloc fun b9 => ⟨tok_, ?_⟩)
 ·rintro v l' ⟨rfl, rfl⟩
  refine ⟨tok_, ?_⟩
  refine JD.eff2 7 11 (by kernel_rfl) rfl rfl rfl rfl (e_call rfl rfl (Tr.perm (l' := CH ++ (lv ++ OH ++ ((b4, isC 48 (enc2 t)) :: clE b ({ ccOf c cab vv ob with st := 1, sent := 0, tg := t, vv := nl } : CC) :: r))) (by unfold clE; exact prm_) (hget _)) ?_) (e_alloc fun b9 => ⟨tok_, ?_⟩)
  ·rintro v l' ⟨rfl, rfl⟩
   refine ⟨by unfold clE; repeat (first | exact TOk.nil | refine TOk.was ?_ | refine TOk.past (by decide +kernel) ?_ | refine TOk.mem (by simp) ?_), ?_⟩
   unfold clE
   refine JDp 8 rfl y_mv ?_
   refine JDp 9 rfl (y_extract rfl rfl) ?_
   refine JDp 10 rfl (y_extract rfl rfl) ?_
   refine JDe 11 rfl (e_alloc fun b9 => ⟨tok_, ?_⟩)
   exact JD.lcast (by kernel_rfl) (hT _ _ (⟨b9, ⟨rfl, rfl, rfl, rfl, rfl, trivial⟩, by unfold clE; exact prm_⟩))
  ·refine JDe 7 rfl (e_call rfl rfl (Tr.perm (l' := CH ++ (lv ++ OH ++ ((b9, isC 188 [.string ByteArray.empty, .string ByteArray.empty, .int .i64 0, .slice none 0 0, .int .u8 0, .int .u8 0, .int .u8 0, .int .u8 0, .int .u8 0, .int .u8 0, .int .u8 0, .int .u8 0, .int .u8 0, .int .u8 0, .int .u8 0, .int .u8 0, .int .u8 0, .int .u8 0, .int .u8 0, .int .u8 0, .int .u8 0, .int .u8 0, .int .u8 0, .int .u8 0, .int .u8 0, .int .u8 0, .int .u8 0, .int .u8 0, .int .u8 0, .int .u8 0, .int .u8 0, .int .u8 0, .int .u8 0, .int .u8 0, .int .u8 0, .int .u8 0, .int .i64 0]) :: (b4, isC 48 (enc2 t)) :: clE b ({ ccOf c cab vv ob with st := 1, sent := 0, tg := t, vv := nl } : CC) :: r))) (by unfold clE; exact prm_) (hget _)) ?_)
   rintro v l' ⟨rfl, rfl⟩
   refine ⟨by unfold clE; repeat (first | exact TOk.nil | refine TOk.was ?_ | refine TOk.past (by decide +kernel) ?_ | refine TOk.mem (by simp) ?_), ?_⟩
   unfold clE
   refine JDp 8 rfl y_mv ?_
   refine JDp 9 rfl (y_extract rfl rfl) ?_
   refine JDp 10 rfl (y_extract rfl rfl) ?_
   exact JD.lcast (by kernel_rfl) (hT _ _ (⟨b9, ⟨rfl, rfl, rfl, rfl, rfl, trivial⟩, by unfold clE; exact prm_⟩))
 ·refine JDe 5 rfl (e_call rfl rfl (home_ok (b := b) (c := ({ ccOf c cab vv ob with st := 1, sent := 0, tg := t, vv := nl } : CC)) h7 (by unfold clE; simp)) ?_)
  rintro v l' ⟨rfl, rfl⟩
  refine ⟨tok_, ?_⟩
  refine JDe 7 rfl (e_call rfl rfl (Tr.perm (l' := CH ++ (lv ++ OH ++ ((b9, isC 188 [.string ByteArray.empty, .string ByteArray.empty, .int .i64 0, .slice none 0 0, .int .u8 0, .int .u8 0, .int .u8 0, .int .u8 0, .int .u8 0, .int .u8 0, .int .u8 0, .int .u8 0, .int .u8 0, .int .u8 0, .int .u8 0, .int .u8 0, .int .u8 0, .int .u8 0, .int .u8 0, .int .u8 0, .int .u8 0, .int .u8 0, .int .u8 0, .int .u8 0, .int .u8 0, .int .u8 0, .int .u8 0, .int .u8 0, .int .u8 0, .int .u8 0, .int .u8 0, .int .u8 0, .int .u8 0, .int .u8 0, .int .u8 0, .int .u8 0, .int .i64 0]) :: (b4, isC 48 (enc2 t)) :: clE b ({ ccOf c cab vv ob with st := 1, sent := 0, tg := t, vv := nl } : CC) :: r))) (by unfold clE; exact prm_) (hget _)) ?_)
  rintro v l' ⟨rfl, rfl⟩
  refine ⟨by unfold clE; repeat (first | exact TOk.nil | refine TOk.was ?_ | refine TOk.past (by decide +kernel) ?_ | refine TOk.mem (by simp) ?_), ?_⟩
  unfold clE
  refine JDp 8 rfl y_mv ?_
  refine JDp 9 rfl (y_extract rfl rfl) ?_
  refine JDp 10 rfl (y_extract rfl rfl) ?_
  exact JD.lcast (by kernel_rfl) (hT _ _ (⟨b9, ⟨rfl, rfl, rfl, rfl, rfl, trivial⟩, by unfold clE; exact prm_⟩))
end Go.Proofs.YtbalcgjphkdecaaGreatDoor.To
namespace Go.Proofs.YtbalcgjphkdecaaGreatDoor.To
open Go.RowKit Go.Lg
set_option maxRecDepth 100000
section
variable {P : Program} {fn : Func} {n : Nat} {W : World} {f : Fr} {l : List Ent} {Φ : Value → List Ent → Prop}
theorem ret_cells21 {t u y : Tmp} {T U T' U' b c sz sz' : Nat} {cs es : List Value} {v : Value} (hr : fn.results = #[.cell t T, .cell u U, .tmp y]) {K : Kont} (hK : K.bottom = (Fin P fn W Φ).bottom) [ha : Agg P T true] [hs : Sz P T sz] [ha' : Agg P U true] [hs' : Sz P U sz'] (i j : Nat) (he : l[i]? = some (b, isC T' cs)) (he' : l[j]? = some (c, isC U' es))
  (hp : ev n f (.tmp t) = .pointer (some ⟨b, 0, none⟩)) (hq : ev n f (.tmp u) = .pointer (some ⟨c, 0, none⟩)) (hv : ev n f (.tmp y) = v) (hl : cs.length = sz) (hl' : es.length = sz') {l' : List Ent} (hsub : l'.Sublist l) (h : Φ (.tuple #[.agg cs.toArray, .agg es.toArray, v]) l') : RT n W K f l := by
 intro w hw
 rw [hK]
 refine fin_ret_sub (fun w hw => ?_) hsub h w hw
 obtain ⟨_, ob, hb, fz, rfl, _⟩ := hw.at_ he
 obtain ⟨_, ob', hb', fz', rfl, _⟩ := hw.at_ he'
 have h1 := run_loadVar_agg P hb ha.h hs.h (o := 0) (by simp only [List.size_toArray]; omega)
 have h2 := run_loadVar_agg P hb' ha'.h hs'.h (o := 0) (by simp only [List.size_toArray]; omega)
 have e1 : cs.toArray.extract 0 (0 + sz) = cs.toArray := by rw [← hl]; simp
 have e2 : es.toArray.extract 0 (0 + sz') = es.toArray := by rw [← hl']; simp
 rw [e1] at h1
 rw [e2] at h2
 have hp' := hp
 have hq' := hq
 have hv' := hv
 rw [← act_getD] at hp' hq' hv'
 rw [Array.getD_eq_getD_getElem?] at hp' hq' hv'
 simp [results, hr, hp', hq', hv', asAddr, h1, h2]
end
attribute [local irreducible] JC JL JD RN RT Eff Yld YldIf Tr partsL okR splitL wordB joinD fit betweenS laidS viaS De.wrapB De.num De.clampI K Se.sealB Pa.byts Au.byts RP.byts Mg.byts Se.inc tillM Ca.CBox
set_option maxHeartbeats 2000000 in
theorem got_ok {b : Nat} {c : CC} {s : P2} {kv : Int} {dA vA : Option Addr} {dn dc vn vc xb kb u q ses : Nat} {kk : Bs} (hk : kk.length = 32) (hob : c.ob = ptr xb) (hou : c.ou = (u : Int)) (hu : u ≤ 255) (hq : q ≤ 1000002) {st en nc : Int} (hnc : c.onc = nc) (hrp : ((RP.mk (K ses) s st en nc)).good) {W : World} {r : List Ent} (hv : BV W r (.slice vA vn vc) (Se.sealB kk u (BitVec.ofNat 64 q) ((RP.mk (K ses) s st en nc)).byts)) :
  Tr Pg 97 #[ptr b, .agg ([sv c.p.1, sv c.p.2, sv s.1, sv s.2, iv kv, .slice dA dn dc, .slice vA vn vc]).toArray] W (clE b c :: (xb, isBx kb kk) :: (kb, isKy kk) :: r) fun v l' => v = .tuple #[pv s, .agg (crC s kv (.slice dA dn dc) (kf (K ses)) en).toArray, .bool true] ∧ l' = clE b c :: (xb, isBx kb kk) :: (kb, isKy kk) :: r := by
 have hrb := RP.byts_le hrp
 have hpc : ((RP.mk (K ses) s st en nc)).cells = (ck (kf (K ses)) ++ [sv s.1, sv s.2, iv st, iv en, iv nc]) := by unfold RP.cells; dsimp only; rw [ck_eq (K_len ses)]
 have e1 : c.cells = ({ c with ob := ptr xb, ou := (u : Int), onc := nc } : CC).cells := by rw [← hob, ← hou, ← hnc]
 unfold clE
 rw [e1]
 refine Tr.of_code (args := [_, _]) Tryz.func97 rfl Tryz.ntmps97 lE_ ?_
 refine AU0 ?_
 refine JLs (e_box (cs := [sv c.p.1, sv c.p.2, sv s.1, sv s.2, iv kv, .slice dA dn dc, .slice vA vn vc]) rfl rfl fun b3 => ?_)
 refine JLs (e_alloc fun b4 => ?_)
 refine JLs (e_alloc fun b5 => ?_)
 refine AU0 ?_
 refine JC.drawn 7 rfl mixed ?_
 refine JDp 0 rfl (y_fieldAddr rfl) ?_
 refine JDr 1 2 rfl rfl (r_loadA rfl lE_ rfl) ?_
 refine JDp 2 rfl y_mv ?_
 refine JDp 3 rfl (y_nilCheck rfl) ?_
 refine JDp 4 rfl (y_fieldAddr rfl) ?_
 refine JDr 5 3 rfl rfl (r_loadA rfl lE_ rfl) ?_
 refine JDp 6 rfl (y_neqAns (r := true) rfl rfl (by rw [← decide_eq_true (rfl : c.p = c.p)]; exact eq_princ c.p c.p) (by decide)) ?_
 refine JDd ?_
 refine AU0 ?_
 refine JC.drawn 18 rfl mixed ?_
 refine JDp 0 rfl y_mv ?_
 refine JDp 1 rfl (y_nilCheck rfl) ?_
 refine JDp 2 rfl (y_fieldAddr rfl) ?_
 refine JDp 3 rfl (y_fieldAddr rfl) ?_
 refine JDr 4 3 rfl rfl (r_load1 rfl rfl) ?_
 refine JDp 5 rfl y_mv ?_
 refine JDp 6 rfl (y_nilCheck rfl) ?_
 refine JDp 7 rfl (y_fieldAddr rfl) ?_
 refine JDp 8 rfl (y_fieldAddr rfl) ?_
 refine JDr 9 3 rfl rfl (r_load1 rfl rfl) ?_
 refine JDp 10 rfl (y_fieldAddr rfl) ?_
 refine JDr 11 2 rfl rfl (r_load1 rfl rfl) ?_
 refine JDe 12 rfl (e_call (vs := [ptr xb, iv u, .slice vA vn vc]) rfl rfl (Tr.perm (l' := (xb, isBx kb kk) :: (kb, isKy kk) :: ((b5, isC 188 [.string ByteArray.empty, .string ByteArray.empty, .int .i64 0, .slice none 0 0, .int .u8 0, .int .u8 0, .int .u8 0, .int .u8 0, .int .u8 0, .int .u8 0, .int .u8 0, .int .u8 0, .int .u8 0, .int .u8 0, .int .u8 0, .int .u8 0, .int .u8 0, .int .u8 0, .int .u8 0, .int .u8 0, .int .u8 0, .int .u8 0, .int .u8 0, .int .u8 0, .int .u8 0, .int .u8 0, .int .u8 0, .int .u8 0, .int .u8 0, .int .u8 0, .int .u8 0, .int .u8 0, .int .u8 0, .int .u8 0, .int .u8 0, .int .u8 0, .int .i64 0]) :: (b4, isC 48 [.string ByteArray.empty, .string ByteArray.empty]) :: (b3, isC 203 [sv c.p.1, sv c.p.2, sv s.1, sv s.2, iv kv, .slice dA dn dc, .slice vA vn vc]) :: clE b { c with ob := ptr xb, ou := (u : Int), onc := nc } :: r)) (by unfold clE; exact prm_) (BOpen_ok hk (u := u) (n := q) hu hq (ps := ((RP.mk (K ses) s st en nc)).byts) (by omega) (hv.mono fun e he => by simp [he]))) ?_)
 rintro v l' ⟨v1, le1, rfl, ho1, rfl⟩
 unfold clE
 refine ⟨tok_, ?_⟩
 refine JDp 13 rfl y_mv ?_
 refine JDp 14 rfl (y_extract rfl rfl) ?_
 refine JDp 15 rfl (y_extract rfl rfl) ?_
 refine JDp 16 rfl y_as ?_
 refine JDp 17 rfl y_as ?_
 refine JDd ?_
 refine AU0 ?_
 refine JLs (e_call rfl rfl (DecodeRep_ok hrp (BV.mono (BV.own (W := W) ho1) fun e he => by simp [he])) ?_)
 rintro v l' ⟨rfl, rfl⟩
 rw [hpc]
 refine AU0 ?_
 refine JLs (e_alloc fun b9 => ?_)
 refine JLs (e_store 0 rfl rfl rfl (vs := (ck (kf (K ses)) ++ [sv s.1, sv s.2, iv st, iv en, iv nc])) rfl rfl rfl lE_ ?_)
 refine JL.cast (l' := (b9, isC 263 (ck (kf (K ses)) ++ [sv s.1, sv s.2, iv st, iv en, iv nc])) :: (le1 ++ ((xb, isBx kb kk) :: (kb, isKy kk) :: ((b5, isC 188 [.string ByteArray.empty, .string ByteArray.empty, .int .i64 0, .slice none 0 0, .int .u8 0, .int .u8 0, .int .u8 0, .int .u8 0, .int .u8 0, .int .u8 0, .int .u8 0, .int .u8 0, .int .u8 0, .int .u8 0, .int .u8 0, .int .u8 0, .int .u8 0, .int .u8 0, .int .u8 0, .int .u8 0, .int .u8 0, .int .u8 0, .int .u8 0, .int .u8 0, .int .u8 0, .int .u8 0, .int .u8 0, .int .u8 0, .int .u8 0, .int .u8 0, .int .u8 0, .int .u8 0, .int .u8 0, .int .u8 0, .int .u8 0, .int .u8 0, .int .i64 0]) :: (b4, isC 48 [.string ByteArray.empty, .string ByteArray.empty]) :: (b3, isC 203 [sv c.p.1, sv c.p.2, sv s.1, sv s.2, iv kv, .slice dA dn dc, .slice vA vn vc]) :: clE b { c with ob := ptr xb, ou := (u : Int), onc := nc } :: r)))) rfl ?_
 refine JL.sub (l' := (b9, isC 263 (ck (kf (K ses)) ++ [sv s.1, sv s.2, iv st, iv en, iv nc])) :: ((xb, isBx kb kk) :: (kb, isKy kk) :: ((b5, isC 188 [.string ByteArray.empty, .string ByteArray.empty, .int .i64 0, .slice none 0 0, .int .u8 0, .int .u8 0, .int .u8 0, .int .u8 0, .int .u8 0, .int .u8 0, .int .u8 0, .int .u8 0, .int .u8 0, .int .u8 0, .int .u8 0, .int .u8 0, .int .u8 0, .int .u8 0, .int .u8 0, .int .u8 0, .int .u8 0, .int .u8 0, .int .u8 0, .int .u8 0, .int .u8 0, .int .u8 0, .int .u8 0, .int .u8 0, .int .u8 0, .int .u8 0, .int .u8 0, .int .u8 0, .int .u8 0, .int .u8 0, .int .u8 0, .int .u8 0, .int .i64 0]) :: (b4, isC 48 [.string ByteArray.empty, .string ByteArray.empty]) :: (b3, isC 203 [sv c.p.1, sv c.p.2, sv s.1, sv s.2, iv kv, .slice dA dn dc, .slice vA vn vc]) :: clE b { c with ob := ptr xb, ou := (u : Int), onc := nc } :: r))) (List.Sublist.cons_cons _ (List.sublist_append_right le1 _)) ?_
 refine JL.perm (l' := (b9, isC 263 (ck (kf (K ses)) ++ [sv s.1, sv s.2, iv st, iv en, iv nc])) :: (b5, isC 188 [.string ByteArray.empty, .string ByteArray.empty, .int .i64 0, .slice none 0 0, .int .u8 0, .int .u8 0, .int .u8 0, .int .u8 0, .int .u8 0, .int .u8 0, .int .u8 0, .int .u8 0, .int .u8 0, .int .u8 0, .int .u8 0, .int .u8 0, .int .u8 0, .int .u8 0, .int .u8 0, .int .u8 0, .int .u8 0, .int .u8 0, .int .u8 0, .int .u8 0, .int .u8 0, .int .u8 0, .int .u8 0, .int .u8 0, .int .u8 0, .int .u8 0, .int .u8 0, .int .u8 0, .int .u8 0, .int .u8 0, .int .u8 0, .int .u8 0, .int .i64 0]) :: (b4, isC 48 [.string ByteArray.empty, .string ByteArray.empty]) :: (b3, isC 203 [sv c.p.1, sv c.p.2, sv s.1, sv s.2, iv kv, .slice dA dn dc, .slice vA vn vc]) :: clE b { c with ob := ptr xb, ou := (u : Int), onc := nc } :: (xb, isBx kb kk) :: (kb, isKy kk) :: r) (by unfold clE; exact prm_) ?_
 unfold clE
 refine AU0 ?_
 refine JC.drawn 21 rfl mixed ?_
 refine JDp 0 rfl y_mv ?_
 refine JDp 1 rfl (y_eql rfl rfl (decide_eq_true (by omega))) ?_
 refine JDp 2 rfl y_mv ?_
 refine JDp 3 rfl (y_fieldAddr rfl) ?_
 refine JDr 4 0 rfl rfl (r_load1 rfl rfl) ?_
 refine JDp 5 rfl y_mv ?_
 refine JDp 6 rfl (y_nilCheck rfl) ?_
 refine JDp 7 rfl (y_fieldAddr rfl) ?_
 refine JDp 8 rfl (y_fieldAddr rfl) ?_
 refine JDr 9 4 rfl rfl (r_load1 rfl rfl) ?_
 refine JDp 10 rfl (y_eql (a := nc) (b := nc) rfl rfl (decide_eq_true rfl)) ?_
 refine JDp 11 rfl (y_pick_t rfl (by conv => lhs; whnf)) ?_
 refine JDp 12 rfl y_mv ?_
 refine JDp 13 rfl (y_fieldAddr rfl) ?_
 refine JDr 14 0 rfl rfl (r_loadA rfl lE_ rfl) ?_
 refine JDp 15 rfl (y_fieldAddr rfl) ?_
 refine JDp 16 rfl (y_fieldAddr rfl) ?_
 refine JDr 17 3 rfl rfl (r_loadA rfl lE_ rfl) ?_
 refine JDp 18 rfl (y_eqlAns (r := true) rfl rfl (by rw [← decide_eq_true (rfl : s = s)]; exact eq_princ s s) (by decide)) ?_
 refine JDp 19 rfl (y_pick_t rfl (by conv => lhs; whnf)) ?_
 refine JDp 20 rfl y_as ?_
 refine JDd ?_
 refine AU0 ?_
 refine JC.drawn 13 rfl mixed ?_
 refine JDp 0 rfl (y_fieldAddr rfl) ?_
 refine JDr 1 0 rfl rfl (r_loadA rfl lE_ rfl) ?_
 refine JDp 2 rfl (y_fieldAddr rfl) ?_
 refine JDr 3 3 rfl rfl (r_loadA rfl lE_ rfl) ?_
 refine JDp 4 rfl (y_fieldAddr rfl) ?_
 refine JDr 5 0 rfl rfl (r_loadA rfl lE_ rfl) ?_
 refine JDp 6 rfl (y_fieldAddr rfl) ?_
 refine JDr 7 0 rfl rfl (r_load1 rfl rfl) ?_
 refine JDp 8 rfl (y_build (cells := (crC s kv (.slice dA dn dc) (kf (K ses)) en).toArray) (by kernel_rfl)) ?_
 refine JDp 9 rfl y_mv ?_
 refine JDe 10 rfl (e_store 2 rfl rfl rfl (vs := enc2 s) rfl rfl rfl lE_ ⟨tok_, ?_⟩)
 refine JDe 11 rfl (e_store 1 rfl rfl rfl (vs := crC s kv (.slice dA dn dc) (kf (K ses)) en) rfl rfl rfl lE_ ⟨tok_, ?_⟩)
 refine JDp 12 rfl y_as ?_
 refine JDd ?_
 refine RN.cast (l' := (b9, isC 263 (ck (kf (K ses)) ++ [sv s.1, sv s.2, iv st, iv en, iv nc])) :: (b5, isC 188 (crC s kv (.slice dA dn dc) (kf (K ses)) en)) :: (b4, isC 48 (enc2 s)) :: (b3, isC 203 [sv c.p.1, sv c.p.2, sv s.1, sv s.2, iv kv, .slice dA dn dc, .slice vA vn vc]) :: clE b { c with ob := ptr xb, ou := (u : Int), onc := nc } :: (xb, isBx kb kk) :: (kb, isKy kk) :: r) rfl ?_
 unfold clE
 refine AU0 ?_
 exact JC.ret (ret_cells21 rfl rfl 2 1 rfl rfl rfl rfl (v := .bool true) rfl rfl rfl (List.sublist_append_right [_, _, _, _] _) ⟨rfl, rfl⟩)
theorem goes_done {b : Nat} {c : CC} {s : P2} {kv en now : Int} {d : Value} {f : Nat → Value} (hs : s = c.tg) {W : World} {r : List Ent} : Tr Pg 99 #[ptr b, pv s, .agg (crC s kv d f en).toArray, iv now] W (clE b c :: r) fun v l' => v = .tuple #[sv [], nl] ∧ l' = clE b { c with st := 2 } :: r := by
 unfold clE
 refine Tr.of_code (args := [_, _, _, _]) Tryz.func99 rfl Tryz.ntmps99 lE_ ?_
 refine AU0 ?_
 refine JLs (e_box (cs := enc2 s) rfl rfl fun k5 => ?_)
 refine JLs (e_box (cs := crC s kv d f en) rfl rfl fun k6 => ?_)
 refine AU0 ?_
 refine JC.drawn 6 rfl mixed ?_
 refine JDr 0 1 rfl rfl (r_loadA rfl lE_ rfl) ?_
 refine JDp 1 rfl y_mv ?_
 refine JDp 2 rfl (y_nilCheck rfl) ?_
 refine JDp 3 rfl (y_fieldAddr rfl) ?_
 refine JDr 4 2 rfl rfl (r_loadA rfl lE_ rfl) ?_
 refine JDp 5 rfl (y_eqlAns (r := true) rfl rfl (by rw [← decide_eq_true hs]; exact eq_princ s c.tg) (by decide)) ?_
 refine JDd ?_
 refine AU0 ?_
 refine JLs (e_store 2 rfl rfl rfl (vs := [iv 2]) rfl rfl rfl lE_ ?_)
 refine JL.cast (l' := (k6, isC 188 (crC s kv d f en)) :: (k5, isC 48 (enc2 s)) :: clE b { c with st := 2 } :: r) rfl ?_
 refine AU0 ?_
 exact JC.sub (List.sublist_append_right [_, _] _) (JC.ret (RT.two rfl rfl (v := sv []) (v' := nl) rfl rfl ⟨rfl, rfl⟩))
end Go.Proofs.YtbalcgjphkdecaaGreatDoor.To
namespace Go.Proofs.YtbalcgjphkdecaaGreatDoor.To
open Go.RowKit Go.Lg
set_option maxRecDepth 100000
theorem BV.dv {W : World} {r : List Ent} {v : Value} {bs : Bs} (h : BV W r v bs) (hb : bs.length ≤ 2000) : Ca.Dv W r v bs := by
 obtain ⟨A, c, rfl, h1, h2, h3⟩ := h
 exact ⟨A, c, rfl, by omega, h3, h1⟩
theorem look_none {p : P2} : ∀ {ca : List (P2 × CrS)}, (ca.all fun y => decide (y.1 ≠ p)) = true → Ca.look (ba p.1) (ba p.2) (caL ca) = none := by
 intro ca h
 unfold Ca.look caL
 rw [Option.map_eq_none_iff, List.find?_eq_none]
 intro x hx
 obtain ⟨y, hy, rfl⟩ := List.mem_map.1 hx
 have := of_decide_eq_true (List.all_eq_true.1 h y hy)
 show ¬ (ba p.1 == ba y.1.1 && ba p.2 == ba y.1.2) = true
 rw [p2_eq p y.1, decide_eq_true_eq]
 exact fun e => this e.symm
theorem putR_new {p : P2} {x : CrS} {now : Int} {ca ca' : List (P2 × CrS)} (h : putM p x now ca = some ca') : Ca.putR (ba p.1) (ba p.2) x.crd now (caL ca) = (0, caL ca') := by
 unfold putM at h
 split at h
 case isFalse => cases h
 rename_i hc
 simp only [Bool.and_eq_true, decide_eq_true_eq] at hc
 obtain ⟨⟨h1, h2⟩, h3⟩ := hc
 cases h
 have hf : (caL ca).filter (Ca.keepI now) = caL ca := List.filter_eq_self.2 fun y hy => by
  unfold caL at hy
  obtain ⟨z, hz, rfl⟩ := List.mem_map.1 hy
  exact List.all_eq_true.1 h1 z hz
 have hlen : ¬ 10 ≤ (caL ca).length := by unfold caL; rw [List.length_map]; omega
 unfold Ca.putR
 rw [hf, look_none h2]
 dsimp only
 rw [if_neg hlen]
 unfold caL
 rw [List.map_append]
 rfl
attribute [local irreducible] JC JL JD RN RT Eff Yld YldIf Tr partsL okR splitL wordB joinD fit betweenS laidS viaS De.wrapB De.num De.clampI K Se.sealB Pa.byts Au.byts RP.byts Mg.byts Se.inc tillM Ca.CBox
theorem put_ok {cab : Nat} {ca ca' : List (P2 × CrS)} {CH r : List Ent} {W : World} {p : P2} {x : CrS} {d : Value} {now : Int} (h : putM p x now ca = some ca') (hB : Ca.CBox W cab (caL ca) CH) (hd : BV W r d x.tk.tk.bl) (hb : x.tk.tk.bl.length ≤ 2000) :
  Tr Pg 98 #[ptr cab, pv p, .agg (crC x.tk.sv_ x.tk.kv d (kf (K x.ses)) x.en).toArray, iv now] W (CH ++ r) fun v l' => v = iv 0 ∧ ∃ CH', Ca.CBox W cab (caL ca') CH' ∧ l' = CH' ++ r := by
 have := Ca.Put_ok (p := ba p.1) (q := ba p.2) (c := x.crd) (d := d) (now := now) hB (hd.dv hb)
 rw [putR_new h] at this
 exact this
set_option maxHeartbeats 2000000 in
theorem goes_more {b : Nat} {c : CC} {z : S} {s : P2} {kv : Int} {bl : Bs} {d : Value} {ses : Nat} {en now : Int} (hs : s ≠ c.tg) (hsp : okP s) (ht : targetS s.2 = some z) (hp : c.p.1.length ≤ 1000) (hfst : c.ofst = true → s = (c.p.1, grantS ++ c.p.1)) {vis : List S} (hz : z ∉ vis) (hvis : vis.length ≤ 5)
  (hn : tm now) (hns : c.ns ≤ 1000000) (hnn : c.nn ≤ 1000000) (hse : c.sent ≤ 1000000) (hmg : ((Mg.tg ⟨⟨s, kv, bl⟩, Se.sealB (K ses) 7 (BitVec.ofNat 64 (c.ns + 1)) (Au.mk c.p now 0).byts, c.tg, tillM now, ((c.nn + 1 : Nat) : Int)⟩)).good) (hag : (Au.mk c.p now 0).good) {W : World} {lv r : List Ent} (ho : Lg.Own 9 1 c.vv vis.length (vis.map sv) lv) (hd : BV W r d bl) :
  Tr Pg 99 #[ptr b, pv s, .agg (crC s kv d (kf (K ses)) en).toArray, iv now] W (clE b c :: (lv ++ r)) fun v l' => ∃ v1 le xb kb vv lv', v = .tuple #[sv z, v1] ∧ OwnB v1 ((Mg.tg ⟨⟨s, kv, bl⟩, Se.sealB (K ses) 7 (BitVec.ofNat 64 (c.ns + 1)) (Au.mk c.p now 0).byts, c.tg, tillM now, ((c.nn + 1 : Nat) : Int)⟩)).byts le ∧ Lg.Own 9 1 vv (vis ++ [z]).length ((vis ++ [z]).map sv) lv' ∧
   l' = le ++ (clE b { c with ns := c.ns + 1, vv := vv, nn := c.nn + 1, sent := c.sent + 1, onc := ((c.nn + 1 : Nat) : Int), ob := ptr xb, ou := 8, ofst := false } :: (lv' ++ ((xb, isBx kb (K ses)) :: (kb, isKy (K ses)) :: r))) := by
 obtain ⟨A, cv, hvv, hsv⟩ := SlV.own (W := W) ho
 rw [hvv] at ho
 have e1 : clE b c = clE b { c with vv := .slice A vis.length cv } := by unfold clE; rw [← hvv]
 rw [e1]
 unfold clE
 refine Tr.of_code (args := [_, _, _, _]) Tryz.func99 rfl Tryz.ntmps99 lE_ ?_
 refine AU0 ?_
 refine JLs (e_box (cs := enc2 s) rfl rfl fun k5 => ?_)
 refine JLs (e_box (cs := crC s kv d (kf (K ses)) en) rfl rfl fun k6 => ?_)
 refine AU0 ?_
 refine JC.drawn 6 rfl mixed ?_
 refine JDr 0 1 rfl rfl (r_loadA rfl lE_ rfl) ?_
 refine JDp 1 rfl y_mv ?_
 refine JDp 2 rfl (y_nilCheck rfl) ?_
 refine JDp 3 rfl (y_fieldAddr rfl) ?_
 refine JDr 4 2 rfl rfl (r_loadA rfl lE_ rfl) ?_
 refine JDp 5 rfl (y_eqlAns (r := false) rfl rfl (by rw [← decide_eq_false hs]; exact eq_princ s c.tg) (by decide)) ?_
 refine JDd ?_
 refine AU3 ?_
 refine JLs (e_call rfl rfl (Target_ok (fitP_name hsp.2.1)) ?_)
 rintro v l' ⟨rfl, rfl⟩
 rw [ht]
 refine AU0 ?_
 cases hof : c.ofst with
 | false =>
  refine JC.drawn 16 rfl mixed ?_
  refine JDp 0 rfl y_mv ?_
  refine JDp 1 rfl (y_not rfl) ?_
  refine JDp 2 rfl y_mv ?_
  refine JDp 3 rfl y_mv ?_
  refine JDp 4 rfl (y_nilCheck rfl) ?_
  refine JDp 5 rfl (y_fieldAddr rfl) ?_
  refine JDp 6 rfl (y_fieldAddr rfl) ?_
  refine JDr 7 2 rfl rfl (r_load1 rfl rfl) ?_
  refine JDp 8 rfl y_mv ?_
  refine JDo 9 rfl ?_
  refine JDo 10 rfl ?_
  refine JD.eff0 11 (by kernel_rfl) rfl rfl tok_ ?_
  refine JDo 12 rfl ?_
  refine JDp 13 rfl (y_pick_f rfl (by conv => lhs; whnf)) ?_
  refine JDp 14 rfl (y_pick_f rfl (by conv => lhs; whnf)) ?_
  refine JDp 15 rfl y_as ?_
  refine JDd ?_
  refine AU3 ?_
  refine JLs (e_call rfl rfl (ContainsS_ok z rfl (by omega) (hsv.1.mono fun e he => by simp [he])) ?_)
  rintro v l' ⟨rfl, rfl⟩
  rw [decide_eq_false hz]
  refine AU3 ?_
  refine JLs (e_call rfl rfl (Tr.perm (l' := clE b { c with vv := .slice A vis.length cv, ofst := false } :: (lv ++ ((k6, isC 188 (crC s kv d (kf (K ses)) en)) :: (k5, isC 48 (enc2 s)) :: r))) (by unfold clE; exact prm_) (further_ok (c := { c with vv := .slice A vis.length cv, ofst := false }) (z := z) (s := s) (kv := kv) (bl := bl) (d := d) (ses := ses) (en := en) hn hns hnn hse hmg hag (by omega) ho (hd.mono fun e he => by simp [he]))) ?_)
  rintro v l' ⟨v1, le, xb, kb, vv, lv', rfl, ho1, ho2, rfl⟩
  refine AU0 ?_
  refine JC.sub (l' := le ++ (clE b { c with ns := c.ns + 1, vv := vv, nn := c.nn + 1, sent := c.sent + 1, onc := ((c.nn + 1 : Nat) : Int), ob := ptr xb, ou := 8, ofst := false } :: (lv' ++ ((xb, isBx kb (K ses)) :: (kb, isKy (K ses)) :: r)))) (List.Sublist.append_left (List.Sublist.cons_cons _ (List.Sublist.append_left (List.Sublist.cons_cons _ (List.Sublist.cons_cons _ (List.sublist_append_right [_, _] r))) _)) _) ?_
  exact JC.ret (RT.two rfl rfl (v := sv z) (v' := v1) rfl rfl ⟨v1, le, xb, kb, vv, lv', rfl, ho1, ho2, rfl⟩)
 | true =>
  have hh : decide (s = (c.p.1, grantS ++ c.p.1)) = true := decide_eq_true (hfst hof)
  refine JC.drawn 16 rfl mixed ?_
  refine JDp 0 rfl y_mv ?_
  refine JDp 1 rfl (y_not rfl) ?_
  refine JDp 2 rfl y_mv ?_
  refine JDp 3 rfl y_mv ?_
  refine JDp 4 rfl (y_nilCheck rfl) ?_
  refine JDp 5 rfl (y_fieldAddr rfl) ?_
  refine JDp 6 rfl (y_fieldAddr rfl) ?_
  refine JDr 7 2 rfl rfl (r_load1 rfl rfl) ?_
  refine JDp 8 rfl y_mv ?_
  refine JDr 9 1 rfl rfl (r_loadA rfl lE_ rfl) ?_
  refine JDp 10 rfl y_mv ?_
  refine JDe 11 rfl (e_call rfl rfl (home_ok (b := b) (c := { c with vv := .slice A vis.length cv, ofst := true }) hp (by unfold clE; simp)) ?_)
  rintro v l' ⟨rfl, rfl⟩
  refine ⟨tok_, ?_⟩
  refine JDp 12 rfl (y_neqAns (r := true) rfl rfl (by rw [← hh]; exact eq_princ s (c.p.1, grantS ++ c.p.1)) (by decide)) ?_
  refine JDp 13 rfl (y_pick_t rfl (by conv => lhs; whnf)) ?_
  refine JDp 14 rfl (y_pick_f rfl (by conv => lhs; whnf)) ?_
  refine JDp 15 rfl y_as ?_
  refine JDd ?_
  refine AU3 ?_
  refine JLs (e_call rfl rfl (ContainsS_ok z rfl (by omega) (hsv.1.mono fun e he => by simp [he])) ?_)
  rintro v l' ⟨rfl, rfl⟩
  rw [decide_eq_false hz]
  refine AU3 ?_
  refine JLs (e_call rfl rfl (Tr.perm (l' := clE b { c with vv := .slice A vis.length cv, ofst := true } :: (lv ++ ((k6, isC 188 (crC s kv d (kf (K ses)) en)) :: (k5, isC 48 (enc2 s)) :: r))) (by unfold clE; exact prm_) (further_ok (c := { c with vv := .slice A vis.length cv, ofst := true }) (z := z) (s := s) (kv := kv) (bl := bl) (d := d) (ses := ses) (en := en) hn hns hnn hse hmg hag (by omega) ho (hd.mono fun e he => by simp [he]))) ?_)
  rintro v l' ⟨v1, le, xb, kb, vv, lv', rfl, ho1, ho2, rfl⟩
  refine AU0 ?_
  refine JC.sub (l' := le ++ (clE b { c with ns := c.ns + 1, vv := vv, nn := c.nn + 1, sent := c.sent + 1, onc := ((c.nn + 1 : Nat) : Int), ob := ptr xb, ou := 8, ofst := false } :: (lv' ++ ((xb, isBx kb (K ses)) :: (kb, isKy (K ses)) :: r)))) (List.Sublist.append_left (List.Sublist.cons_cons _ (List.Sublist.append_left (List.Sublist.cons_cons _ (List.Sublist.cons_cons _ (List.sublist_append_right [_, _] r))) _)) _) ?_
  exact JC.ret (RT.two rfl rfl (v := sv z) (v' := v1) rfl rfl ⟨v1, le, xb, kb, vv, lv', rfl, ho1, ho2, rfl⟩)
end Go.Proofs.YtbalcgjphkdecaaGreatDoor.To
namespace Go.Proofs.YtbalcgjphkdecaaGreatDoor.To
open Go.RowKit Go.Lg
set_option maxRecDepth 100000
attribute [local irreducible] JC JL JD RN RT Eff Yld YldIf Tr partsL okR splitL wordB joinD fit betweenS laidS viaS De.wrapB De.num De.clampI K Se.sealB Pa.byts Au.byts RP.byts Mg.byts Se.inc tillM Ca.CBox
theorem takeM_spec {c c' : ClS} {m : MS} {now : Int} {res : Option (S × MS)} (h : takeM c m now = some (c', res)) : ∃ cl tk rp o ca, m = .rep cl tk rp ∧ c.out = some o ∧ putM tk.sv_ ⟨tk, rp.ses, rp.en⟩ now c.ca = some ca ∧
    (c.st = 1 ∧ m.okb = true ∧ tmb now = true ∧ cl = c.p ∧ rp.k = o.bk ∧ rp.u = o.u ∧ rp.nc = o.nc ∧ rp.sv_ = tk.sv_) ∧
    ((tk.sv_ = c.tg ∧ c' = ⟨c.p, c.k, ca, c.nn, c.ns, c.nq, 2, c.sent, c.tg, c.vis, c.out⟩ ∧ res = none) ∨
     (tk.sv_ ≠ c.tg ∧ ∃ r z, targetS tk.sv_.2 = some r ∧ (o.fst = true → tk.sv_ = (c.p.1, grantS ++ c.p.1)) ∧ r ∉ c.vis ∧ c.vis.length ≤ 5 ∧ c.p.1.length ≤ 1000 ∧ furtherM ⟨c.p, c.k, ca, c.nn, c.ns, c.nq, c.st, c.sent, c.tg, c.vis, c.out⟩ r ⟨tk, rp.ses, rp.en⟩ now = some (c', z) ∧ res = some z)) := by
  unfold takeM at h
  split at h
  case h_2 => cases h
  rename_i cl tk rp o ho
  split at h
  case h_2 => cases h
  rename_i ca hput
  split at h
  case isFalse => cases h
  rename_i hc
  simp only [Bool.and_eq_true, decide_eq_true_eq] at hc
  obtain ⟨⟨⟨⟨⟨⟨⟨c1, c2⟩, c3⟩, c4⟩, c5⟩, c6⟩, c7⟩, c8⟩ := hc
  refine ⟨cl, tk, rp, o, ca, rfl, ho, hput, ⟨c1, c2, c3, c4, c5, c6, c7, c8⟩, ?_⟩
  split at h
  · rename_i hs
    cases h
    exact .inl ⟨hs, rfl, rfl⟩
  · rename_i hs
    split at h
    case h_2 => cases h
    rename_i r hr
    split at h
    case isFalse => cases h
    rename_i hcc
    simp only [Bool.and_eq_true, Bool.or_eq_true, Bool.not_eq_true', decide_eq_true_eq] at hcc
    obtain ⟨⟨⟨d1, d2⟩, d3⟩, d4⟩ := hcc
    obtain ⟨⟨x1, z⟩, hx, he⟩ := Option.map_eq_some_iff.1 h
    cases he
    refine .inr ⟨hs, r, z, hr, fun hf => ?_, d2, d3, d4, hx, rfl⟩
    rcases d1 with d1 | d1
    · rw [hf] at d1; cases d1
    · exact d1
def TakeP (W : World) (b : Nat) (c' : ClS) (res : Option (S × MS)) (r : List Ent) (v : Value) (l' : List Ent) : Prop := ∃ z v1 le H', v = .tuple #[sv z, v1] ∧ ClB W b c' H' ∧ l' = le ++ (H' ++ r) ∧ match res with
 | none => z = [] ∧ v1 = nl
 | some x => z = x.1 ∧ OwnB v1 x.2.mg.byts le
set_option maxHeartbeats 2000000 in
theorem Take_ok {c c' : ClS} {m : MS} {now : Int} {res : Option (S × MS)} (h : takeM c m now = some (c', res)) {b : Nat} {H r : List Ent} {W : World} (hB : ClB W b c H) {v : Value} (hv : BV W r v m.mg.byts) : Tr Pg 54 #[ptr b, v, iv now] W (H ++ r) (TakeP W b c' res r) := by
 obtain ⟨cl, tk, rp, o, ca', rfl, ho, hput, ⟨c1, c2, c3, c4, c5, c6, c7, c8⟩, hres⟩ := takeM_spec h
 have hnow := tmb_spec c3
 have hg := MS.okb_spec c2
 simp only [MS.okb, Bool.and_eq_true] at c2
 obtain ⟨q1, q2, q3, q4⟩ := TkS.okb_spec c2.1.2
 obtain ⟨a1, a2, a3, a4⟩ := RpS.okb_spec c2.2
 obtain ⟨p, k, ca, nn, ns, nq, st, sent, tg, vis, out⟩ := c
 dsimp only at *
 subst c1 ho c4
 obtain ⟨cab, CH, vv, lv, ob, OH, hC, hlv, ⟨xb, kb, rfl, rfl⟩, rfl⟩ := hB
 dsimp only at hC hlv
 refine Tr.of_code (args := [_, _, _]) Tryz.func54 rfl Tryz.ntmps54 lE_ ?_
 refine AU0 ?_
 refine JLs (e_call rfl rfl (Decode_ok hg (hv.mono fun e he => by simp [he])) ?_)
 rintro v l' ⟨w1, w2, le0, rfl, hm0, rfl⟩
 obtain ⟨⟨dA, dc, rfl, hds⟩, ⟨vA, vc, rfl, hvs⟩⟩ := id hm0
 refine AU0 ?_
 refine JLs (e_alloc fun b8 => ?_)
 refine JLs (e_store 0 rfl rfl rfl (vs := (MS.rep cl tk rp).mg.cells (.slice dA (MS.rep cl tk rp).mg.b1.length dc) (.slice vA (MS.rep cl tk rp).mg.b2.length vc)) rfl rfl rfl lE_ ?_)
 refine JL.cast (l' := (b8, isC 207 ((MS.rep cl tk rp).mg.cells (.slice dA (MS.rep cl tk rp).mg.b1.length dc) (.slice vA (MS.rep cl tk rp).mg.b2.length vc))) :: (le0 ++ ((clE b (ccOf ⟨cl, k, ca, nn, ns, nq, 1, sent, tg, vis, some o⟩ cab vv (ptr xb)) :: (CH ++ (lv ++ [(xb, isBx kb (K o.bk)), (kb, isKy (K o.bk))]))) ++ r))) rfl ?_
 refine JL.perm (l' := (b8, isC 207 ((MS.rep cl tk rp).mg.cells (.slice dA (MS.rep cl tk rp).mg.b1.length dc) (.slice vA (MS.rep cl tk rp).mg.b2.length vc))) :: clE b (ccOf ⟨cl, k, ca, nn, ns, nq, 1, sent, tg, vis, some o⟩ cab vv (ptr xb)) :: (xb, isBx kb (K o.bk)) :: (kb, isKy (K o.bk)) :: (CH ++ (lv ++ (le0 ++ r)))) prm_ ?_
 unfold clE
 repeat (first | refine JLp (y_neq (a := 1) (b := 1) rfl rfl (r := false) (decide_eq_true rfl)) ?_ | refine AS2 ?_)
 refine JLs (e_call rfl rfl (CTime_yes hnow) ?_)
 rintro v l' ⟨rfl, rfl⟩
 refine AU1 ?_
 have e1 : Se.sealB (K o.bk) o.u (BitVec.ofNat 64 rp.n) (RP.mk (K rp.ses) tk.sv_ rp.st rp.en rp.nc).byts = rp.b := by unfold RpS.b RpS.rp; rw [c5, c6, c8]
 refine JLs (e_call rfl rfl (Tr.perm (l' := clE b (ccOf ⟨cl, k, ca, nn, ns, nq, 1, sent, tg, vis, some o⟩ cab vv (ptr xb)) :: (xb, isBx kb (K o.bk)) :: (kb, isKy (K o.bk)) :: ((b8, isC 207 ((MS.rep cl tk rp).mg.cells (.slice dA (MS.rep cl tk rp).mg.b1.length dc) (.slice vA (MS.rep cl tk rp).mg.b2.length vc))) :: (CH ++ (lv ++ (le0 ++ r))))) (by unfold clE; exact prm_) (got_ok (c := ccOf ⟨cl, k, ca, nn, ns, nq, 1, sent, tg, vis, some o⟩ cab vv (ptr xb)) (s := tk.sv_) (kv := (tk.kv : Int)) (u := o.u) (q := rp.n) (ses := rp.ses) (st := rp.st) (en := rp.en) (nc := rp.nc) (K_len o.bk) rfl rfl (by rw [← c6]; exact a2) (by omega) c7.symm (by have := a4; unfold RpS.rp at this; rw [c8] at this; exact this) (by rw [e1]; exact hm0.2.mono fun e he => by simp [he]))) ?_)
 rintro v l' ⟨rfl, rfl⟩
 refine AU0 ?_
 refine JLs (e_alloc fun b10 => ?_)
 refine JLs (e_alloc fun b11 => ?_)
 refine JLs (e_store 1 rfl rfl rfl (vs := enc2 tk.sv_) rfl rfl rfl lE_ ?_)
 refine JLs (e_store 0 rfl rfl rfl (vs := (crC tk.sv_ tk.kv (.slice dA (MS.rep cl tk rp).mg.b1.length dc) (kf (K rp.ses)) rp.en)) rfl rfl rfl lE_ ?_)
 refine JL.cast (l' := (b11, isC 188 (crC tk.sv_ tk.kv (.slice dA (MS.rep cl tk rp).mg.b1.length dc) (kf (K rp.ses)) rp.en)) :: (b10, isC 48 (enc2 tk.sv_)) :: clE b (ccOf ⟨cl, k, ca, nn, ns, nq, 1, sent, tg, vis, some o⟩ cab vv (ptr xb)) :: (xb, isBx kb (K o.bk)) :: (kb, isKy (K o.bk)) :: ((b8, isC 207 ((MS.rep cl tk rp).mg.cells (.slice dA (MS.rep cl tk rp).mg.b1.length dc) (.slice vA (MS.rep cl tk rp).mg.b2.length vc))) :: (CH ++ (lv ++ (le0 ++ r))))) rfl ?_
 unfold clE
 refine AU0 ?_
 refine JC.drawn 9 rfl mixed ?_
 refine JDp 0 rfl y_mv ?_
 refine JDp 1 rfl (y_nilCheck rfl) ?_
 refine JDp 2 rfl (y_fieldAddr rfl) ?_
 refine JDr 3 2 rfl rfl (r_load1 rfl rfl) ?_
 refine JDr 4 1 rfl rfl (r_loadA rfl lE_ rfl) ?_
 refine JDr 5 0 rfl rfl (r_loadA rfl lE_ rfl) ?_
 refine JDp 6 rfl y_mv ?_
 refine JDe 7 rfl (e_call rfl rfl (Tr.perm (l' := CH ++ ((b11, isC 188 (crC tk.sv_ tk.kv (.slice dA (MS.rep cl tk rp).mg.b1.length dc) (kf (K rp.ses)) rp.en)) :: (b10, isC 48 (enc2 tk.sv_)) :: clE b (ccOf ⟨cl, k, ca, nn, ns, nq, 1, sent, tg, vis, some o⟩ cab vv (ptr xb)) :: (xb, isBx kb (K o.bk)) :: (kb, isKy (K o.bk)) :: (b8, isC 207 ((MS.rep cl tk rp).mg.cells (.slice dA (MS.rep cl tk rp).mg.b1.length dc) (.slice vA (MS.rep cl tk rp).mg.b2.length vc))) :: (lv ++ (le0 ++ r)))) (by unfold clE; exact prm_) (put_ok hput hC (hm0.1.mono fun e he => by simp [he]) (Nat.le_trans q1.2.2.2.2 (by decide)))) ?_)
 rintro v l' ⟨rfl, CH', hC', rfl⟩
 unfold clE
 refine ⟨tok_, ?_⟩
 refine JDp 8 rfl y_as ?_
 refine JDd ?_
 refine RN.perm (l' := (b11, isC 188 (crC tk.sv_ tk.kv (.slice dA (MS.rep cl tk rp).mg.b1.length dc) (kf (K rp.ses)) rp.en)) :: (b10, isC 48 (enc2 tk.sv_)) :: clE b (ccOf ⟨cl, k, ca, nn, ns, nq, 1, sent, tg, vis, some o⟩ cab vv (ptr xb)) :: (lv ++ ((xb, isBx kb (K o.bk)) :: (kb, isKy (K o.bk)) :: (b8, isC 207 ((MS.rep cl tk rp).mg.cells (.slice dA (MS.rep cl tk rp).mg.b1.length dc) (.slice vA (MS.rep cl tk rp).mg.b2.length vc))) :: (CH' ++ (le0 ++ r))))) (by unfold clE; exact prm_) ?_
 rcases hres with ⟨hs, rfl, rfl⟩ | ⟨hs, z, y, ht, hfst, hz, hvis, hp, hfur, rfl⟩
 ·refine AU2 ?_
  refine JLs (e_call rfl rfl (Tr.perm (l' := clE b (ccOf ⟨cl, k, ca, nn, ns, nq, 1, sent, tg, vis, some o⟩ cab vv (ptr xb)) :: ((b11, isC 188 (crC tk.sv_ tk.kv (.slice dA (MS.rep cl tk rp).mg.b1.length dc) (kf (K rp.ses)) rp.en)) :: (b10, isC 48 (enc2 tk.sv_)) :: (lv ++ ((xb, isBx kb (K o.bk)) :: (kb, isKy (K o.bk)) :: (b8, isC 207 ((MS.rep cl tk rp).mg.cells (.slice dA (MS.rep cl tk rp).mg.b1.length dc) (.slice vA (MS.rep cl tk rp).mg.b2.length vc))) :: (CH' ++ (le0 ++ r)))))) (by unfold clE; exact prm_) (goes_done (c := ccOf ⟨cl, k, ca, nn, ns, nq, 1, sent, tg, vis, some o⟩ cab vv (ptr xb)) hs)) ?_)
  rintro v l' ⟨rfl, rfl⟩
  refine AU0 ?_
  refine JC.sub (l' := clE b (ccOf ⟨cl, k, ca', nn, ns, nq, 2, sent, tg, vis, some o⟩ cab vv (ptr xb)) :: (lv ++ ((xb, isBx kb (K o.bk)) :: (kb, isKy (K o.bk)) :: (CH' ++ r)))) (List.Sublist.cons_cons _ (List.Sublist.cons _ (List.Sublist.cons _ (List.Sublist.append_left (List.Sublist.cons_cons _ (List.Sublist.cons_cons _ (List.Sublist.cons _ (List.Sublist.append_left (List.sublist_append_right _ _) _)))) _)))) ?_
  refine JC.perm (l' := [] ++ ((clE b (ccOf ⟨cl, k, ca', nn, ns, nq, 2, sent, tg, vis, some o⟩ cab vv (ptr xb)) :: (CH' ++ (lv ++ [(xb, isBx kb (K o.bk)), (kb, isKy (K o.bk))]))) ++ r)) prm_ ?_
  exact JC.ret (RT.two rfl rfl (v := sv []) (v' := nl) rfl rfl ⟨[], nl, [], _, rfl, ⟨cab, CH', vv, lv, ptr xb, _, hC', hlv, ⟨xb, kb, rfl, rfl⟩, rfl⟩, rfl, rfl, rfl⟩)
 ·unfold furtherM at hfur
  split at hfur
  case isFalse => cases hfur
  rename_i hcc
  simp only [Bool.and_eq_true, decide_eq_true_eq] at hcc
  obtain ⟨⟨⟨⟨⟨d1, d2⟩, d3⟩, d4⟩, d5⟩, d6⟩ := hcc
  cases hfur
  have hmg := MS.okb_spec d1
  have hau : (Au.mk cl now 0).good := by
   simp only [MS.okb, Bool.and_eq_true] at d1
   exact (AuS.okb_spec d1.1.1.1.2).2.2.2
  refine AU2 ?_
  refine JLs (e_call rfl rfl (Tr.perm (l' := clE b (ccOf ⟨cl, k, ca, nn, ns, nq, 1, sent, tg, vis, some o⟩ cab vv (ptr xb)) :: (lv ++ ((b11, isC 188 (crC tk.sv_ tk.kv (.slice dA (MS.rep cl tk rp).mg.b1.length dc) (kf (K rp.ses)) rp.en)) :: (b10, isC 48 (enc2 tk.sv_)) :: ((xb, isBx kb (K o.bk)) :: (kb, isKy (K o.bk)) :: (b8, isC 207 ((MS.rep cl tk rp).mg.cells (.slice dA (MS.rep cl tk rp).mg.b1.length dc) (.slice vA (MS.rep cl tk rp).mg.b2.length vc))) :: (CH' ++ (le0 ++ r)))))) (by unfold clE; exact prm_) (goes_more (c := ccOf ⟨cl, k, ca, nn, ns, nq, 1, sent, tg, vis, some o⟩ cab vv (ptr xb)) (z := z) (s := tk.sv_) (kv := (tk.kv : Int)) (bl := tk.tk.bl) (ses := rp.ses) (en := rp.en) hs q4 ht hp hfst hz hvis hnow (nb_spec d4) (nb_spec d3) (nb_spec d5) hmg hau hlv (hm0.1.mono fun e he => by simp [he]))) ?_)
  rintro v l' ⟨v1, le, xb2, kb2, vv2, lv2, rfl, ho1, ho2, rfl⟩
  refine AU0 ?_
  refine JC.sub (l' := le ++ (clE b (ccOf ⟨cl, k, ca', nn + 1, ns + 1, nq, 1, sent + 1, tg, vis ++ [z], some ⟨((nn + 1 : Nat) : Int), rp.ses, 8, false⟩⟩ cab vv2 (ptr xb2)) :: (lv2 ++ ((xb2, isBx kb2 (K rp.ses)) :: (kb2, isKy (K rp.ses)) :: (CH' ++ r))))) (List.Sublist.append_left (List.Sublist.cons_cons _ (List.Sublist.append_left (List.Sublist.cons_cons _ (List.Sublist.cons_cons _ (List.Sublist.cons _ (List.Sublist.cons _ (List.Sublist.cons _ (List.Sublist.cons _ (List.Sublist.cons _ (List.Sublist.append_left (List.sublist_append_right _ _) _)))))))) _)) _) ?_
  refine JC.perm (l' := le ++ ((clE b (ccOf ⟨cl, k, ca', nn + 1, ns + 1, nq, 1, sent + 1, tg, vis ++ [z], some ⟨((nn + 1 : Nat) : Int), rp.ses, 8, false⟩⟩ cab vv2 (ptr xb2)) :: (CH' ++ (lv2 ++ [(xb2, isBx kb2 (K rp.ses)), (kb2, isKy (K rp.ses))]))) ++ r)) prm_ ?_
  exact JC.ret (RT.two rfl rfl (v := sv z) (v' := v1) rfl rfl ⟨z, v1, le, _, rfl, ⟨cab, CH', vv2, lv2, ptr xb2, _, hC', ho2, ⟨xb2, kb2, rfl, rfl⟩, rfl⟩, rfl, rfl, ho1⟩)
end Go.Proofs.YtbalcgjphkdecaaGreatDoor.To
namespace Go.Proofs.YtbalcgjphkdecaaGreatDoor.To
open Go.RowKit Go.Lg
set_option maxRecDepth 100000
theorem look_find (t : P2) : ∀ ca : List (P2 × CrS), Ca.look (ba t.1) (ba t.2) (caL ca) = (ca.find? fun y => decide (y.1 = t)).map fun y => y.2.crd
 | [] => rfl
 | y :: ca => by
  have ih := look_find t ca
  have e : Ca.It.is (ba t.1) (ba t.2) ⟨ba y.1.1, ba y.1.2, y.2.crd⟩ = decide (y.1 = t) := by
   show (ba t.1 == ba y.1.1 && ba t.2 == ba y.1.2) = _
   rw [p2_eq t y.1]
   by_cases h : y.1 = t
   ·rw [decide_eq_true h, decide_eq_true h.symm]
   ·rw [decide_eq_false h, decide_eq_false fun e => h e.symm]
  unfold Ca.look caL at *
  rw [List.map_cons, List.find?_cons, List.find?_cons, e]
  cases hd : decide (y.1 = t) with
  | true => rfl
  | false => exact ih
theorem askM_spec {c : ClS} {t : P2} {now : Int} {res : Option (ClS × MS)} (h : askM c t now = some res) : ∃ x, ((c.ca.find? fun y => decide (y.1 = t)).map (·.2)) = some x ∧ tm now ∧
    ((now ≤ x.en ∧ (MS.ap x.tk ⟨x.ses, 11, c.ns + 1, ⟨c.p, now, ((c.nq + 1 : Nat) : Int)⟩⟩).okb = true ∧ c.ns ≤ 1000000 ∧ c.nq ≤ 1000000 ∧ res = some (⟨c.p, c.k, c.ca, c.nn, c.ns + 1, c.nq + 1, c.st, c.sent, c.tg, c.vis, c.out⟩, .ap x.tk ⟨x.ses, 11, c.ns + 1, ⟨c.p, now, ((c.nq + 1 : Nat) : Int)⟩⟩)) ∨
     (x.en < now ∧ res = none)) := by
  unfold askM at h
  split at h
  case h_2 => cases h
  rename_i y x hf
  split at h
  case isFalse => cases h
  rename_i hn
  refine ⟨x, by rw [hf]; rfl, tmb_spec hn, ?_⟩
  split at h
  · rename_i hle
    split at h
    case isFalse => cases h
    rename_i hc
    simp only [Bool.and_eq_true] at hc
    cases h
    exact .inl ⟨hle, hc.1.1, nb_spec hc.1.2, nb_spec hc.2, rfl⟩
  · rename_i hle
    cases h
    exact .inr ⟨by omega, rfl⟩
attribute [local irreducible] JC JL JD RN RT Eff Yld YldIf Tr partsL okR splitL wordB joinD fit betweenS laidS viaS De.wrapB De.num De.clampI K Se.sealB Pa.byts Au.byts RP.byts Mg.byts Se.inc tillM Ca.CBox
theorem get_yes {cab : Nat} {ca : List (P2 × CrS)} {CH r : List Ent} {W : World} {t : P2} {x : CrS} {now : Int} (hB : Ca.CBox W cab (caL ca) CH) (hf : ((ca.find? fun y => decide (y.1 = t)).map (·.2)) = some x) (hle : now ≤ x.en) : Tr Pg 87 #[ptr cab, pv t, iv now] W (CH ++ r) fun v l' =>
  ∃ d le, v = .tuple #[.agg (crC x.tk.sv_ x.tk.kv d (kf (K x.ses)) x.en).toArray, .bool true] ∧ OwnB d x.tk.tk.bl le ∧ l' = le ++ (CH ++ r) :=
 (Ca.Get_ok (p := ba t.1) (q := ba t.2) (now := now) hB).mono fun v l' y => by
  rw [look_find] at y
  obtain ⟨z, hz, hzx⟩ := Option.map_eq_some_iff.1 hf
  rw [hz] at y
  subst hzx
  rcases y with ⟨cc, hl, -, d, le, h1, h2, -, h3⟩ | ⟨h, -⟩
  ·cases hl
   exact ⟨d, le, h1, h2, h3⟩
  ·rcases h with h | ⟨cc, hl, hlt⟩
   ·cases h
   ·cases hl
    exact absurd hlt (Int.not_lt.2 hle)
theorem get_no {cab : Nat} {ca : List (P2 × CrS)} {CH r : List Ent} {W : World} {t : P2} {x : CrS} {now : Int} (hB : Ca.CBox W cab (caL ca) CH) (hf : ((ca.find? fun y => decide (y.1 = t)).map (·.2)) = some x) (hlt : x.en < now) : Tr Pg 87 #[ptr cab, pv t, iv now] W (CH ++ r) fun v l' => v = .tuple #[.agg Ca.zcr.toArray, .bool false] ∧ l' = CH ++ r :=
 (Ca.Get_ok (p := ba t.1) (q := ba t.2) (now := now) hB).mono fun v l' y => by
  rw [look_find] at y
  obtain ⟨z, hz, hzx⟩ := Option.map_eq_some_iff.1 hf
  rw [hz] at y
  subst hzx
  rcases y with ⟨cc, hl, hle, -⟩ | ⟨-, h⟩
  ·cases hl
   exact absurd hlt (Int.not_lt.2 hle)
  ·exact h
theorem Ask_no {c : ClS} {t : P2} {now : Int} (h : askM c t now = some none) {b : Nat} {H r : List Ent} {W : World} (hB : ClB W b c H) :
  Tr Pg 50 #[ptr b, pv t, iv now] W (H ++ r) fun v l' => v = .tuple #[nl, iv 4] ∧ l' = H ++ r := by
 obtain ⟨x, hf, hnow, ⟨-, -, -, -, he⟩ | ⟨hlt, -⟩⟩ := askM_spec h
 ·cases he
 obtain ⟨cab, CH, vv, lv, ob, OH, hC, ho, hO, rfl⟩ := hB
 rw [List.cons_append]
 unfold clE
 refine Tr.of_code (args := [_, _, _]) Tryz.func50 rfl Tryz.ntmps50 lE_ ?_
 refine AU0 ?_
 refine JLs (e_box (cs := enc2 t) rfl rfl fun b4 => ?_)
 refine AU0 ?_
 refine JLs (e_call rfl rfl (CTime_yes hnow) ?_)
 rintro v l' ⟨rfl, rfl⟩
 refine AU0 ?_
 refine JC.drawn 13 rfl mixed ?_
 refine JDp 0 rfl y_mv ?_
 refine JDp 1 rfl (y_nilCheck rfl) ?_
 refine JDp 2 rfl (y_fieldAddr rfl) ?_
 refine JDr 3 1 rfl rfl (r_load1 rfl rfl) ?_
 refine JDr 4 0 rfl rfl (r_loadA rfl lE_ rfl) ?_
 refine JDp 5 rfl y_mv ?_
 refine JD.cut (fun f l' => ∃ b8, FrOk f [(0, ptr b), (2, iv now), (8, ptr b8), (26, .agg Ca.zcr.toArray), (27, .bool false)] ∧ l'.Perm ((b8, isC 188 [.string ByteArray.empty, .string ByteArray.empty, .int .i64 0, .slice none 0 0, .int .u8 0, .int .u8 0, .int .u8 0, .int .u8 0, .int .u8 0, .int .u8 0, .int .u8 0, .int .u8 0, .int .u8 0, .int .u8 0, .int .u8 0, .int .u8 0, .int .u8 0, .int .u8 0, .int .u8 0, .int .u8 0, .int .u8 0, .int .u8 0, .int .u8 0, .int .u8 0, .int .u8 0, .int .u8 0, .int .u8 0, .int .u8 0, .int .u8 0, .int .u8 0, .int .u8 0, .int .u8 0, .int .u8 0, .int .u8 0, .int .u8 0, .int .u8 0, .int .i64 0]) :: (b4, isC 48 (enc2 t)) :: clE b (ccOf c cab vv ob) :: (CH ++ (lv ++ OH ++ r)))) 2 #[true, true, true, true, true, true, true, true, true, true, true, false, false] ?_ ?_
 ·rintro f l' ⟨b8, hf, hp⟩
  refine JD.perm hp (JD.frame _ hf fun f' => ?_)
  refine JDe 11 rfl (e_store 0 rfl rfl rfl (vs := Ca.zcr) rfl rfl rfl lE_ ⟨by unfold clE; repeat (first | exact TOk.nil | refine TOk.was ?_ | refine TOk.past (by decide +kernel) ?_ | refine TOk.mem (by simp) ?_), ?_⟩)
  refine JDp 12 rfl y_as ?_
  refine JDd ?_
  refine RN.cast (l' := (b8, isC 188 Ca.zcr) :: (b4, isC 48 (enc2 t)) :: clE b (ccOf c cab vv ob) :: (CH ++ (lv ++ OH ++ r))) rfl ?_
  refine AU0 ?_
  refine JC.sub (l' := clE b (ccOf c cab vv ob) :: (CH ++ (lv ++ OH) ++ r)) (by simp only [List.append_assoc]; exact List.sublist_append_right [_, _] _) ?_
  exact JC.ret (RT.two rfl rfl (v := nl) (v' := iv 4) rfl rfl ⟨rfl, rfl⟩)
 intro hT
 refine JD.eff2 6 10 (by kernel_rfl) rfl rfl rfl rfl (e_call rfl rfl (Tr.perm (l' := CH ++ (lv ++ OH ++ ((b4, isC 48 (enc2 t)) :: clE b (ccOf c cab vv ob) :: r))) (by unfold clE; exact prm_) (get_no hC hf hlt)) ?_) (e_alloc fun b8 => ⟨tok_, ?_⟩)
 ·rintro v l' ⟨rfl, rfl⟩
  refine ⟨by unfold clE; repeat (first | exact TOk.nil | refine TOk.was ?_ | refine TOk.past (by decide +kernel) ?_ | refine TOk.mem (by simp) ?_), ?_⟩
  unfold clE
  refine JDp 7 rfl y_mv ?_
  refine JDp 8 rfl (y_extract rfl rfl) ?_
  refine JDp 9 rfl (y_extract rfl rfl) ?_
  refine JDe 10 rfl (e_alloc fun b8 => ⟨tok_, ?_⟩)
  exact JD.lcast (by kernel_rfl) (hT _ _ (⟨b8, ⟨rfl, rfl, rfl, rfl, rfl, trivial⟩, by unfold clE; exact prm_⟩))
 ·refine JDe 6 rfl (e_call rfl rfl (Tr.perm (l' := CH ++ (lv ++ OH ++ ((b8, isC 188 [.string ByteArray.empty, .string ByteArray.empty, .int .i64 0, .slice none 0 0, .int .u8 0, .int .u8 0, .int .u8 0, .int .u8 0, .int .u8 0, .int .u8 0, .int .u8 0, .int .u8 0, .int .u8 0, .int .u8 0, .int .u8 0, .int .u8 0, .int .u8 0, .int .u8 0, .int .u8 0, .int .u8 0, .int .u8 0, .int .u8 0, .int .u8 0, .int .u8 0, .int .u8 0, .int .u8 0, .int .u8 0, .int .u8 0, .int .u8 0, .int .u8 0, .int .u8 0, .int .u8 0, .int .u8 0, .int .u8 0, .int .u8 0, .int .u8 0, .int .i64 0]) :: (b4, isC 48 (enc2 t)) :: clE b (ccOf c cab vv ob) :: r))) (by unfold clE; exact prm_) (get_no hC hf hlt)) ?_)
  rintro v l' ⟨rfl, rfl⟩
  refine ⟨by unfold clE; repeat (first | exact TOk.nil | refine TOk.was ?_ | refine TOk.past (by decide +kernel) ?_ | refine TOk.mem (by simp) ?_), ?_⟩
  unfold clE
  refine JDp 7 rfl y_mv ?_
  refine JDp 8 rfl (y_extract rfl rfl) ?_
  refine JDp 9 rfl (y_extract rfl rfl) ?_
  exact JD.lcast (by kernel_rfl) (hT _ _ (⟨b8, ⟨rfl, rfl, rfl, rfl, rfl, trivial⟩, by unfold clE; exact prm_⟩))
end Go.Proofs.YtbalcgjphkdecaaGreatDoor.To
namespace Go.Proofs.YtbalcgjphkdecaaGreatDoor.To
open Go.RowKit Go.Lg
set_option maxRecDepth 100000
attribute [local irreducible] JC JL JD RN RT Eff Yld YldIf Tr partsL okR splitL wordB joinD fit betweenS laidS viaS De.wrapB De.num De.clampI K Se.sealB Pa.byts Au.byts RP.byts Mg.byts Se.inc tillM Ca.CBox
set_option maxHeartbeats 2000000 in
theorem Ask_yes {c c' : ClS} {m : MS} {t : P2} {now : Int} (h : askM c t now = some (some (c', m))) {b : Nat} {H r : List Ent} {W : World} (hB : ClB W b c H) :
  Tr Pg 50 #[ptr b, pv t, iv now] W (H ++ r) fun v l' => ∃ v1 le H', v = .tuple #[v1, iv 0] ∧ OwnB v1 m.mg.byts le ∧ ClB W b c' H' ∧ l' = le ++ (H' ++ r) := by
 obtain ⟨x, hf, hnow, ⟨hle, hok, hns, hnq, he⟩ | ⟨-, he⟩⟩ := askM_spec h
 case inr => cases he
 cases he
 have hg := MS.okb_spec hok
 have hau : (Au.mk c.p now ((c.nq + 1 : Nat) : Int)).good := by
  simp only [MS.okb, Bool.and_eq_true] at hok
  exact (AuS.okb_spec hok.2).2.2.2
 have hi := inc_nat (n := c.nq) (by omega)
 obtain ⟨cab, CH, vv, lv, ob, OH, hC, ho, hO, rfl⟩ := hB
 rw [List.cons_append]
 unfold clE
 refine Tr.of_code (args := [_, _, _]) Tryz.func50 rfl Tryz.ntmps50 lE_ ?_
 refine AU0 ?_
 refine JLs (e_box (cs := enc2 t) rfl rfl fun b4 => ?_)
 refine AU0 ?_
 refine JLs (e_call rfl rfl (CTime_yes hnow) ?_)
 rintro v l' ⟨rfl, rfl⟩
 refine AU0 ?_
 refine JC.cut (fun f l' => ∃ b8 dA dc leg, FrOk f [(0, ptr b), (2, iv now), (8, ptr b8), (9, .bool true)] ∧ SlV W leg dA x.tk.tk.bl.length dc (x.tk.tk.bl.map bv) ∧ l' = (b8, isC 188 (crC x.tk.sv_ x.tk.kv (.slice dA x.tk.tk.bl.length dc) (kf (K x.ses)) x.en)) :: (b4, isC 48 (enc2 t)) :: clE b (ccOf c cab vv ob) :: (CH ++ (lv ++ OH ++ (leg ++ r)))) ?_ fun K' hT2 => ?_
 rotate_left
 refine JC.drawn 13 rfl mixed ?_
 refine JDp 0 rfl y_mv ?_
 refine JDp 1 rfl (y_nilCheck rfl) ?_
 refine JDp 2 rfl (y_fieldAddr rfl) ?_
 refine JDr 3 1 rfl rfl (r_load1 rfl rfl) ?_
 refine JDr 4 0 rfl rfl (r_loadA rfl lE_ rfl) ?_
 refine JDp 5 rfl y_mv ?_
 refine JD.cut (fun f l' => ∃ b8 dA dc leg, FrOk f [(0, ptr b), (2, iv now), (8, ptr b8), (26, .agg ((crC x.tk.sv_ x.tk.kv (.slice dA x.tk.tk.bl.length dc) (kf (K x.ses)) x.en)).toArray), (27, .bool true)] ∧ SlV W leg dA x.tk.tk.bl.length dc (x.tk.tk.bl.map bv) ∧ l'.Perm ((b8, isC 188 [.string ByteArray.empty, .string ByteArray.empty, .int .i64 0, .slice none 0 0, .int .u8 0, .int .u8 0, .int .u8 0, .int .u8 0, .int .u8 0, .int .u8 0, .int .u8 0, .int .u8 0, .int .u8 0, .int .u8 0, .int .u8 0, .int .u8 0, .int .u8 0, .int .u8 0, .int .u8 0, .int .u8 0, .int .u8 0, .int .u8 0, .int .u8 0, .int .u8 0, .int .u8 0, .int .u8 0, .int .u8 0, .int .u8 0, .int .u8 0, .int .u8 0, .int .u8 0, .int .u8 0, .int .u8 0, .int .u8 0, .int .u8 0, .int .u8 0, .int .i64 0]) :: (b4, isC 48 (enc2 t)) :: clE b (ccOf c cab vv ob) :: (CH ++ (lv ++ OH ++ (leg ++ r))))) 2 #[true, true, true, true, true, true, true, true, true, true, true, false, false] ?_ ?_
 ·rintro f l' ⟨b8, dA, dc, leg, hf, hds, hp⟩
  refine JD.perm hp (JD.frame _ hf fun f' => ?_)
  refine JDe 11 rfl (e_store 0 rfl rfl rfl (vs := (crC x.tk.sv_ x.tk.kv (.slice dA x.tk.tk.bl.length dc) (kf (K x.ses)) x.en)) rfl rfl rfl lE_ ⟨by unfold clE; repeat (first | exact TOk.nil | refine TOk.was ?_ | refine TOk.past (by decide +kernel) ?_ | refine TOk.mem (by simp) ?_), ?_⟩)
  refine JDp 12 rfl y_as ?_
  refine JDd ?_
  refine RN.cast (l' := (b8, isC 188 (crC x.tk.sv_ x.tk.kv (.slice dA x.tk.tk.bl.length dc) (kf (K x.ses)) x.en)) :: (b4, isC 48 (enc2 t)) :: clE b (ccOf c cab vv ob) :: (CH ++ (lv ++ OH ++ (leg ++ r)))) rfl ?_
  exact hT2 _ _ ⟨b8, dA, dc, leg, ⟨rfl, rfl, rfl, rfl, trivial⟩, hds, rfl⟩
 intro hT
 refine JD.eff2 6 10 (by kernel_rfl) rfl rfl rfl rfl (e_call rfl rfl (Tr.perm (l' := CH ++ (lv ++ OH ++ ((b4, isC 48 (enc2 t)) :: clE b (ccOf c cab vv ob) :: r))) (by unfold clE; exact prm_) (get_yes hC hf hle)) ?_) (e_alloc fun b8 => ⟨tok_, ?_⟩)
 ·rintro v l' ⟨d, leg, rfl, hod, rfl⟩
  obtain ⟨dA, dc, rfl, hds⟩ := BV.own (W := W) hod
  refine ⟨by unfold clE; repeat (first | exact TOk.nil | refine TOk.was ?_ | refine TOk.past (by decide +kernel) ?_ | refine TOk.mem (by simp) ?_), ?_⟩
  unfold clE
  refine JDp 7 rfl y_mv ?_
  refine JDp 8 rfl (y_extract rfl rfl) ?_
  refine JDp 9 rfl (y_extract rfl rfl) ?_
  refine JDe 10 rfl (e_alloc fun b8 => ⟨tok_, ?_⟩)
  exact JD.lcast (by kernel_rfl) (hT _ _ (⟨b8, dA, dc, leg, ⟨rfl, rfl, rfl, rfl, rfl, trivial⟩, hds, by unfold clE; exact prm_⟩))
 ·refine JDe 6 rfl (e_call rfl rfl (Tr.perm (l' := CH ++ (lv ++ OH ++ ((b8, isC 188 [.string ByteArray.empty, .string ByteArray.empty, .int .i64 0, .slice none 0 0, .int .u8 0, .int .u8 0, .int .u8 0, .int .u8 0, .int .u8 0, .int .u8 0, .int .u8 0, .int .u8 0, .int .u8 0, .int .u8 0, .int .u8 0, .int .u8 0, .int .u8 0, .int .u8 0, .int .u8 0, .int .u8 0, .int .u8 0, .int .u8 0, .int .u8 0, .int .u8 0, .int .u8 0, .int .u8 0, .int .u8 0, .int .u8 0, .int .u8 0, .int .u8 0, .int .u8 0, .int .u8 0, .int .u8 0, .int .u8 0, .int .u8 0, .int .u8 0, .int .i64 0]) :: (b4, isC 48 (enc2 t)) :: clE b (ccOf c cab vv ob) :: r))) (by unfold clE; exact prm_) (get_yes hC hf hle)) ?_)
  rintro v l' ⟨d, leg, rfl, hod, rfl⟩
  obtain ⟨dA, dc, rfl, hds⟩ := BV.own (W := W) hod
  refine ⟨by unfold clE; repeat (first | exact TOk.nil | refine TOk.was ?_ | refine TOk.past (by decide +kernel) ?_ | refine TOk.mem (by simp) ?_), ?_⟩
  unfold clE
  refine JDp 7 rfl y_mv ?_
  refine JDp 8 rfl (y_extract rfl rfl) ?_
  refine JDp 9 rfl (y_extract rfl rfl) ?_
  exact JD.lcast (by kernel_rfl) (hT _ _ (⟨b8, dA, dc, leg, ⟨rfl, rfl, rfl, rfl, rfl, trivial⟩, hds, by unfold clE; exact prm_⟩))
 rintro f l' ⟨b8, dA, dc, leg, hf, hds, rfl⟩
 refine RN.frame _ hf fun f' => ?_
 refine RN.perm (l' := (b8, isC 188 (crC x.tk.sv_ x.tk.kv (.slice dA x.tk.tk.bl.length dc) (kf (K x.ses)) x.en)) :: clE b (ccOf c cab vv ob) :: (leg ++ (CH ++ (lv ++ OH ++ ((b4, isC 48 (enc2 t)) :: r))))) prm_ ?_
 unfold clE
 refine AU0 ?_
 refine JC.drawn 11 rfl mixed ?_
 refine JDp 0 rfl y_mv ?_
 refine JDp 1 rfl (y_fieldAddr rfl) ?_
 refine JDr 2 0 rfl rfl (r_loadA rfl lE_ rfl) ?_
 refine JDp 4 rfl y_mv ?_
 refine JDp 5 rfl y_mv ?_
 refine JDp 6 rfl (y_nilCheck rfl) ?_
 refine JDp 7 rfl (y_fieldAddr rfl) ?_
 refine JDe 3 rfl (e_call (vs := [.agg ((K x.ses).map bv).toArray]) rfl (by rw [ck_eq (K_len x.ses)]; rfl) (BNew_ok (K_len _)) ?_)
 rintro v l' ⟨xb, kb, rfl, rfl⟩
 refine ⟨tok_, ?_⟩
 refine JDe 8 rfl (e_call rfl rfl (Se.Add64_ok (o := 37) (x := (c.nq : Int)) 3 rfl rfl) ?_)
 rintro v l' ⟨rfl, rfl⟩
 rw [hi]
 refine ⟨tok_, ?_⟩
 refine JD.perm (l' := (xb, isBx kb (K x.ses)) :: (kb, isKy (K x.ses)) :: (b8, isC 188 (crC x.tk.sv_ x.tk.kv (.slice dA x.tk.tk.bl.length dc) (kf (K x.ses)) x.en)) :: clE b { ccOf c cab vv ob with nq := c.nq + 1 } :: (leg ++ (CH ++ (lv ++ OH ++ ((b4, isC 48 (enc2 t)) :: r))))) (List.Perm.of_eq rfl) ?_
 refine JDe 9 rfl (e_call rfl rfl (Tr.perm (l' := clE b { ccOf c cab vv ob with nq := c.nq + 1 } :: (xb, isBx kb (K x.ses)) :: (kb, isKy (K x.ses)) :: ((b8, isC 188 (crC x.tk.sv_ x.tk.kv (.slice dA x.tk.tk.bl.length dc) (kf (K x.ses)) x.en)) :: (leg ++ (CH ++ (lv ++ OH ++ ((b4, isC 48 (enc2 t)) :: r)))))) (by unfold clE; exact prm_) (authn_ok (c := { ccOf c cab vv ob with nq := c.nq + 1 }) (K_len x.ses) (u := 11) (by decide) hau hns)) ?_)
 rintro v l' ⟨le, ho1, rfl⟩
 obtain ⟨vA, vc, rfl, hvs⟩ := BV.own (W := W) ho1
 refine ⟨tok_, ?_⟩
 refine JDp 10 rfl y_as ?_
 refine JDd ?_
 refine RN.cast (l' := le ++ (clE b { ccOf c cab vv ob with nq := c.nq + 1, ns := c.ns + 1 } :: (xb, isBx kb (K x.ses)) :: (kb, isKy (K x.ses)) :: ((b8, isC 188 (crC x.tk.sv_ x.tk.kv (.slice dA x.tk.tk.bl.length dc) (kf (K x.ses)) x.en)) :: (leg ++ (CH ++ (lv ++ OH ++ ((b4, isC 48 (enc2 t)) :: r))))))) rfl ?_
 refine RN.perm (l' := (b8, isC 188 (crC x.tk.sv_ x.tk.kv (.slice dA x.tk.tk.bl.length dc) (kf (K x.ses)) x.en)) :: (le ++ (clE b { ccOf c cab vv ob with nq := c.nq + 1, ns := c.ns + 1 } :: (xb, isBx kb (K x.ses)) :: (kb, isKy (K x.ses)) :: (leg ++ (CH ++ (lv ++ OH ++ ((b4, isC 48 (enc2 t)) :: r))))))) prm_ ?_
 unfold clE
 refine AU1 ?_
 have hw1 : BV W leg (.slice dA x.tk.tk.bl.length dc) x.tk.tk.bl := ⟨dA, dc, rfl, hds⟩
 have hw2 : BV W le (.slice vA ((AuS.b ⟨x.ses, 11, c.ns + 1, ⟨c.p, now, ((c.nq + 1 : Nat) : Int)⟩⟩)).length vc) (AuS.b ⟨x.ses, 11, c.ns + 1, ⟨c.p, now, ((c.nq + 1 : Nat) : Int)⟩⟩) := ⟨vA, vc, rfl, hvs⟩
 refine JLp (y_build (cells := #[sv x.tk.sv_.1, sv x.tk.sv_.2, iv (x.tk.kv : Int), (.slice dA x.tk.tk.bl.length dc), (.slice vA ((AuS.b ⟨x.ses, 11, c.ns + 1, ⟨c.p, now, ((c.nq + 1 : Nat) : Int)⟩⟩)).length vc)]) (by kernel_rfl)) ?_
 refine JLp (y_build (cells := (((Mg.ap ⟨x.tk.tk, (AuS.b ⟨x.ses, 11, c.ns + 1, ⟨c.p, now, ((c.nq + 1 : Nat) : Int)⟩⟩)⟩)).cells (.slice dA x.tk.tk.bl.length dc) (.slice vA ((AuS.b ⟨x.ses, 11, c.ns + 1, ⟨c.p, now, ((c.nq + 1 : Nat) : Int)⟩⟩)).length vc)).toArray) (by kernel_rfl)) ?_
 refine JLs (e_call rfl rfl (Encode_mg (m := (Mg.ap ⟨x.tk.tk, (AuS.b ⟨x.ses, 11, c.ns + 1, ⟨c.p, now, ((c.nq + 1 : Nat) : Int)⟩⟩)⟩)) hg ⟨hw1.mono fun e he => by simp [he], hw2.mono fun e he => by simp [he]⟩) ?_)
 rintro v l' ⟨v1, le1, rfl, ho1, rfl⟩
 refine AU0 ?_
 refine JC.sub (l' := le1 ++ (clE b { ccOf c cab vv ob with nq := c.nq + 1, ns := c.ns + 1 } :: (CH ++ (lv ++ OH ++ r)))) (List.Sublist.append_left (.cons _ ((List.Sublist.cons_cons _ (.cons _ (.cons _ ((List.Sublist.append_left (List.Sublist.append_left (List.sublist_cons_self _ _) _) _).trans (List.sublist_append_right leg _))))).trans (List.sublist_append_right le _))) _) ?_
 refine JC.perm (l' := le1 ++ ((clE b { ccOf c cab vv ob with nq := c.nq + 1, ns := c.ns + 1 } :: (CH ++ (lv ++ OH))) ++ r)) (by simp only [List.cons_append, List.append_assoc]; exact List.Perm.refl _) ?_
 exact JC.ret (RT.two rfl rfl (v := v1) (v' := iv 0) rfl rfl ⟨v1, le1, _, rfl, ho1, ⟨cab, CH, vv, lv, ob, OH, hC, ho, hO, rfl⟩, rfl⟩)
def newC (p : P2) (k : Nat) : ClS := ⟨p, k, [], 0, 0, 0, 0, 0, ([], []), [], none⟩
theorem CNew_ok {p : P2} (h : isUserB p = true) {k : Nat} {W : World} {r : List Ent} :
  Tr Pg 43 #[pv p, .agg ((K k).map bv).toArray] W r fun v l' => ∃ b H, v = .tuple #[ptr b, iv 0] ∧ ClB W b (newC p k) H ∧ l' = H ++ r := by
 rw [ck_eq (K_len k)]
 refine Tr.of_code (args := [_, _]) Tryz.func43 rfl Tryz.ntmps43 lE_ ?_
 refine AU0 ?_
 refine JLs (e_box (cs := enc2 p) rfl rfl fun b2 => ?_)
 refine JLs (e_box (cs := ck (kf (K k))) rfl rfl fun b3 => ?_)
 refine AU2 ?_
 refine JLs (e_call rfl rfl (isUser_yes h) ?_)
 rintro v l' ⟨rfl, rfl⟩
 refine AU0 ?_
 refine JC.drawn 7 rfl mixed ?_
 refine JDr 0 1 rfl rfl (r_loadA rfl lE_ rfl) ?_
 refine JDr 1 0 rfl rfl (r_loadA rfl lE_ rfl) ?_
 refine JDe 2 rfl (e_call rfl rfl (Ca.New_ok _ _) ?_)
 rintro v l' ⟨cb, CH, rfl, hC, rfl⟩
 refine ⟨tok_, ?_⟩
 refine JD.perm (l' := (b3, isC 55 (ck (kf (K k)))) :: (b2, isC 48 (enc2 p)) :: (CH ++ r)) prm_ ?_
 refine JDp 3 rfl (y_build (cells := ((ccOf (newC p k) cb nl (.pointer none)).cells).toArray) (by kernel_rfl)) ?_
 refine JDe 4 rfl (e_box (cs := (ccOf (newC p k) cb nl (.pointer none)).cells) rfl rfl fun b => ⟨tok_, ?_⟩)
 refine JDp 5 rfl y_as ?_
 refine JDp 6 rfl y_as ?_
 refine JDd ?_
 refine RN.cast (l' := clE b (ccOf (newC p k) cb nl (.pointer none)) :: (b3, isC 55 (ck (kf (K k)))) :: (b2, isC 48 (enc2 p)) :: (CH ++ r)) rfl ?_
 unfold clE
 refine AU0 ?_
 refine JC.sub (l' := clE b (ccOf (newC p k) cb nl (.pointer none)) :: (CH ++ r)) (List.Sublist.cons_cons _ (List.sublist_append_right [_, _] _)) ?_
 exact JC.ret (RT.two rfl rfl (v := ptr b) (v' := iv 0) rfl rfl ⟨b, _, rfl, ⟨cb, CH, nl, [], .pointer none, [], hC, Lg.Own.nil .., ⟨rfl, rfl⟩, rfl⟩, by simp only [List.cons_append, List.append_nil]⟩)
end Go.Proofs.YtbalcgjphkdecaaGreatDoor.To
namespace Go.Proofs.YtbalcgjphkdecaaGreatDoor.To
open Go.RowKit Go.Lg
set_option maxRecDepth 100000
attribute [local irreducible] JC JL JD RN RT Eff Yld YldIf Tr partsL okR splitL wordB joinD fit betweenS laidS viaS De.wrapB De.num De.clampI K Se.sealB Pa.byts Au.byts RP.byts Mg.byts Se.inc tillM
def rpE (b : Nat) (v : Value) : Ent := (b, isC 220 [v, .bool false, iv 0])
theorem PNew_ok {W : World} {r : List Ent} : Tr Pg 85 #[iv 0] W r fun v l' => ∃ b, v = ptr b ∧ l' = rpE b nl :: r := by
 refine Tr.of_code (args := [_]) Tryz.func85 rfl Tryz.ntmps85 lE_ ?_
 repeat (first | refine JLp (y_neq (a := 0) (b := 0) rfl rfl (r := false) (by decide)) ?_ | refine AS0 ?_)
 refine JLp (y_build (cells := #[nl, .bool false, iv 0]) (by kernel_rfl)) ?_
 refine JLs (e_box (cs := [nl, .bool false, iv 0]) rfl rfl fun b => ?_)
 refine AU0 ?_
 exact JC.ret (RT.one rfl rfl (v := ptr b) rfl ⟨b, rfl, rfl⟩)
theorem noneF {f : Value} {W : World} {r : List Ent} : Tr Pg 225 #[nl, f] W r fun v l' => v = iv (-1) ∧ l' = r := by
 refine Tr.of_code (args := [_, _]) Tryz.func225 rfl Tryz.ntmps225 lE_ ?_
 refine AU0 ?_
 refine JC.loop (fun m f' l => FrOk f' [(7, iv 0), (8, iv 0)] ∧ l = r) 0 ?_ ?_
 ·exact ⟨⟨rfl, rfl, trivial⟩, rfl⟩
 rintro m f' l ⟨hf, rfl⟩
 refine JC.frame _ hf fun f'' => ?_
 refine AU0 ?_
 exact JC.ret (RT.one rfl rfl (v := iv (-1)) rfl ⟨rfl, rfl⟩)
theorem noneD {f : Value} {W : World} {r : List Ent} : Tr Pg 184 #[nl, f] W r fun v l' => v = nl ∧ l' = r := by
 refine Tr.of_code (args := [_, _]) Tryz.func184 rfl Tryz.ntmps184 lE_ ?_
 refine AU0 ?_
 refine JLs (e_call rfl rfl noneF ?_)
 rintro v l' ⟨rfl, rfl⟩
 refine AU0 ?_
 exact JC.ret (RT.one rfl rfl (v := nl) rfl ⟨rfl, rfl⟩)
theorem noneI {a : Au} {W : World} {r : List Ent} : Tr Pg 226 #[nl, .agg a.cells.toArray] W r fun v l' => v = iv (-1) ∧ l' = r := by
 refine Tr.of_code (args := [_, _]) Tryz.func226 rfl Tryz.ntmps226 lE_ ?_
 refine AU0 ?_
 refine JLs (e_box (cs := a.cells) rfl rfl fun b => ?_)
 refine AU0 ?_
 refine JC.loop (fun m f' l => FrOk f' [(7, iv 0), (8, iv 0)] ∧ l = (b, isC 250 a.cells) :: r) 0 ?_ ?_
 ·exact ⟨⟨rfl, rfl, trivial⟩, rfl⟩
 rintro m f' l ⟨hf, rfl⟩
 refine JC.frame _ hf fun f'' => ?_
 refine AU0 ?_
 exact JC.sub (List.sublist_cons_self _ _) (JC.ret (RT.one rfl rfl (v := iv (-1)) rfl ⟨rfl, rfl⟩))
theorem noneC {a : Au} {W : World} {r : List Ent} : Tr Pg 186 #[nl, .agg a.cells.toArray] W r fun v l' => v = .bool false ∧ l' = r := by
 refine Tr.of_code (args := [_, _]) Tryz.func186 rfl Tryz.ntmps186 lE_ ?_
 refine AU0 ?_
 refine JLs (e_box (cs := a.cells) rfl rfl fun b => ?_)
 refine AU0 ?_
 refine JL.read 0 rfl rfl (r_loadW rfl rfl) ?_
 refine JLs (e_call rfl rfl noneI ?_)
 rintro v l' ⟨rfl, rfl⟩
 refine AU0 ?_
 exact JC.sub (List.sublist_cons_self _ _) (JC.ret (RT.one rfl rfl (v := .bool false) rfl ⟨rfl, rfl⟩))
set_option maxHeartbeats 2000000 in
theorem See_ok {b : Nat} {a : Au} {now : Int} (ha : a.good) (hn : tm now) {W : World} {r : List Ent} : Tr Pg 137 #[ptr b, .agg a.cells.toArray, iv now] W (rpE b nl :: r) fun v l' =>
  ((a.tm_ ≤ now + 5 ∧ now - 5 ≤ a.tm_) ∧ v = iv 0 ∧ ∃ u le, l' = rpE b u :: (le ++ r)) ∨ (¬(a.tm_ ≤ now + 5 ∧ now - 5 ≤ a.tm_) ∧ v = iv 8 ∧ l' = rpE b nl :: r) := by
 obtain ⟨-, ⟨h1, h2⟩, -⟩ := ha
 obtain ⟨h3, h4⟩ := hn
 refine Tr.of_code (args := [_, _, _]) Tryz.func137 rfl Tryz.ntmps137 lE_ ?_
 unfold rpE
 refine AU0 ?_
 refine JLs (e_box (cs := a.cells) rfl rfl fun b4 => ?_)
 refine JLs (e_box (cs := [iv now]) rfl rfl fun b5 => ?_)
 refine AU0 ?_
 by_cases hA : a.tm_ ≤ now + 5
 case neg =>
  refine JC.drawn 29 rfl mixed ?_
  refine JDp 0 rfl (y_fieldAddr rfl) ?_
  refine JDr 1 1 rfl rfl (r_load1 rfl rfl) ?_
  refine JDr 2 0 rfl rfl (r_load1 rfl rfl) ?_
  refine JDp 3 rfl (y_add rfl rfl (wrap_add (by omega) (by omega))) ?_
  refine JDp 4 rfl (y_gtr rfl rfl (decide_eq_true (by omega))) ?_
  refine JDp 5 rfl y_mv ?_
  refine JDo 6 rfl ?_
  refine JDo 7 rfl ?_
  refine JDo 8 rfl ?_
  refine JDo 9 rfl ?_
  refine JDo 10 rfl ?_
  refine JDp 11 rfl (y_pick_t rfl (by conv => lhs; whnf)) ?_
  refine JDp 12 rfl y_mv ?_
  refine JDo 13 rfl ?_
  refine JDo 14 rfl ?_
  refine JDo 15 rfl ?_
  refine JDo 16 rfl ?_
  refine JDo 17 rfl ?_
  refine JDo 18 rfl ?_
  refine JDo 19 rfl ?_
  refine JDo 20 rfl ?_
  refine JDo 21 rfl ?_
  refine JDo 22 rfl ?_
  refine JDo 23 rfl ?_
  refine JDo 24 rfl ?_
  refine JDo 25 rfl ?_
  refine JDo 26 rfl ?_
  refine JDp 27 rfl (y_pick_t rfl (by conv => lhs; whnf)) ?_
  refine JDp 28 rfl y_as ?_
  refine JDd ?_
  refine AU0 ?_
  exact JC.sub (List.sublist_append_right [_, _] _) (JC.ret (RT.one rfl rfl (v := iv 8) rfl (.inr ⟨fun h => hA h.1, rfl, rfl⟩)))
 by_cases hB : now - 5 ≤ a.tm_
 case neg =>
  refine JC.drawn 29 rfl mixed ?_
  refine JDp 0 rfl (y_fieldAddr rfl) ?_
  refine JDr 1 1 rfl rfl (r_load1 rfl rfl) ?_
  refine JDr 2 0 rfl rfl (r_load1 rfl rfl) ?_
  refine JDp 3 rfl (y_add rfl rfl (wrap_add (by omega) (by omega))) ?_
  refine JDp 4 rfl (y_gtr rfl rfl (decide_eq_false (by omega))) ?_
  refine JDp 5 rfl y_mv ?_
  refine JDp 6 rfl (y_fieldAddr rfl) ?_
  refine JDr 7 1 rfl rfl (r_load1 rfl rfl) ?_
  refine JDr 8 0 rfl rfl (r_load1 rfl rfl) ?_
  refine JDp 9 rfl (y_sub rfl rfl (wrap_add (by omega) (by omega))) ?_
  refine JDp 10 rfl (y_lss rfl rfl (decide_eq_true (by omega))) ?_
  refine JDp 11 rfl (y_pick_f rfl (by conv => lhs; whnf)) ?_
  refine JDp 12 rfl y_mv ?_
  refine JDo 13 rfl ?_
  refine JDo 14 rfl ?_
  refine JDo 15 rfl ?_
  refine JDo 16 rfl ?_
  refine JDo 17 rfl ?_
  refine JDo 18 rfl ?_
  refine JDo 19 rfl ?_
  refine JDo 20 rfl ?_
  refine JDo 21 rfl ?_
  refine JDo 22 rfl ?_
  refine JDo 23 rfl ?_
  refine JDo 24 rfl ?_
  refine JDo 25 rfl ?_
  refine JDo 26 rfl ?_
  refine JDp 27 rfl (y_pick_t rfl (by conv => lhs; whnf)) ?_
  refine JDp 28 rfl y_as ?_
  refine JDd ?_
  refine AU0 ?_
  exact JC.sub (List.sublist_append_right [_, _] _) (JC.ret (RT.one rfl rfl (v := iv 8) rfl (.inr ⟨fun h => hB h.2, rfl, rfl⟩)))
 refine JC.drawn 29 rfl mixed ?_
 refine JDp 0 rfl (y_fieldAddr rfl) ?_
 refine JDr 1 1 rfl rfl (r_load1 rfl rfl) ?_
 refine JDr 2 0 rfl rfl (r_load1 rfl rfl) ?_
 refine JDp 3 rfl (y_add rfl rfl (wrap_add (by omega) (by omega))) ?_
 refine JDp 4 rfl (y_gtr rfl rfl (decide_eq_false (by omega))) ?_
 refine JDp 5 rfl y_mv ?_
 refine JDp 6 rfl (y_fieldAddr rfl) ?_
 refine JDr 7 1 rfl rfl (r_load1 rfl rfl) ?_
 refine JDr 8 0 rfl rfl (r_load1 rfl rfl) ?_
 refine JDp 9 rfl (y_sub rfl rfl (wrap_add (by omega) (by omega))) ?_
 refine JDp 10 rfl (y_lss rfl rfl (decide_eq_false (by omega))) ?_
 refine JDp 11 rfl (y_pick_f rfl (by conv => lhs; whnf)) ?_
 refine JDp 12 rfl y_mv ?_
 refine JDp 13 rfl y_mv ?_
 refine JDp 14 rfl (y_nilCheck rfl) ?_
 refine JDp 15 rfl (y_fieldAddr rfl) ?_
 refine JDr 16 2 rfl rfl (r_load1 rfl rfl) ?_
 refine JDp 17 rfl y_mv ?_
 refine JDo 18 rfl ?_
 refine JDo 19 rfl ?_
 refine JDo 20 rfl ?_
 refine JDo 21 rfl ?_
 refine JDo 22 rfl ?_
 refine JDo 23 rfl ?_
 refine JDo 24 rfl ?_
 refine JDo 25 rfl ?_
 refine JDp 26 rfl (y_pick_f rfl (by conv => lhs; whnf)) ?_
 refine JDp 27 rfl (y_pick_f rfl (by conv => lhs; whnf)) ?_
 refine JDp 28 rfl y_as ?_
 refine JDd ?_
 repeat (first | refine JLp (y_makeFunc (v := .func (.func 185) #[] #[ptr b5]) (by simp only [List.map_toArray, List.map_cons, List.map_nil]; rfl)) ?_ | refine AS3 ?_)
 refine JLs (e_call rfl rfl noneD ?_)
 rintro v l' ⟨rfl, rfl⟩
 refine AU0 ?_
 refine JLs (e_store 2 rfl rfl rfl (vs := [nl]) rfl rfl rfl lE_ ?_)
 refine JL.cast (l' := (b5, isC 3 [iv now]) :: (b4, isC 250 a.cells) :: (b, isC 220 [nl, .bool false, iv 0]) :: r) rfl ?_
 refine AU0 ?_
 refine JC.drawn 7 rfl mixed ?_
 refine JDp 0 rfl y_mv ?_
 refine JDp 1 rfl (y_nilCheck rfl) ?_
 refine JDp 2 rfl (y_fieldAddr rfl) ?_
 refine JDr 3 2 rfl rfl (r_load1 rfl rfl) ?_
 refine JDr 4 1 rfl rfl (r_loadA rfl lE_ rfl) ?_
 refine JDe 5 rfl (e_call rfl rfl noneC ?_)
 rintro v l' ⟨rfl, rfl⟩
 refine ⟨tok_, ?_⟩
 refine JDp 6 rfl y_as ?_
 refine JDd ?_
 repeat (first | refine JLp (y_geq (a := 0) (b := 8) rfl rfl (by decide)) ?_ | refine AS3 ?_)
 refine JC.drawn 11 rfl mixed ?_
 refine JDp 0 rfl y_mv ?_
 refine JDp 1 rfl y_mv ?_
 refine JDp 2 rfl (y_nilCheck rfl) ?_
 refine JDp 3 rfl (y_fieldAddr rfl) ?_
 refine JDr 4 2 rfl rfl (r_load1 rfl rfl) ?_
 refine JDr 5 1 rfl rfl (r_loadA rfl lE_ rfl) ?_
 refine JDe 6 rfl (e_buildSlice (cells := a.cells) [.agg a.cells.toArray] rfl lE_ rfl (fun u hu => by cases List.mem_singleton.1 hu; rfl) rfl fun bn => ⟨tok_, ?_⟩)
 refine JDe 7 rfl (e_appendP (n := 0) (xs := []) [_, _, _, _] [] rfl rfl (Lg.Own.nil ..) rfl (news := a.cells) rfl (Src.whole (List.mem_cons_self ..)) (fun u hu => by unfold Au.cells at hu; simp only [List.mem_cons, List.not_mem_nil, or_false] at hu; rcases hu with rfl | rfl | rfl | rfl <;> rfl) (by omega) (by unfold maxLen; omega) fun v' lv' ho' _ => ⟨tok_, ?_⟩)
 obtain ⟨g, cap, rfl, hc1, hc2, -⟩ := De.own_some (id ho') (Nat.succ_pos _)
 refine JDp 8 rfl (y_nilCheck rfl) ?_
 refine JDp 9 rfl (y_fieldAddr rfl) ?_
 refine JDe 10 rfl (e_store 3 rfl rfl rfl (vs := [.slice (some ⟨g, 0, none⟩) (0 + 1) cap]) rfl rfl rfl lE_ ⟨tok_, ?_⟩)
 refine JDd ?_
 refine RN.cast (l' := _ :: (b5, isC 3 [iv now]) :: (b4, isC 250 a.cells) :: (b, isC 220 [.slice (some ⟨g, 0, none⟩) (0 + 1) cap, .bool false, iv 0]) :: (lv' ++ r)) rfl ?_
 refine AU0 ?_
 refine JC.sub (l' := (b, isC 220 [.slice (some ⟨g, 0, none⟩) (0 + 1) cap, .bool false, iv 0]) :: (lv' ++ r)) (List.sublist_append_right [_, _, _] _) ?_
 exact JC.ret (RT.one rfl rfl (v := iv 0) rfl (.inl ⟨⟨hA, hB⟩, rfl, _, lv', rfl⟩))
end Go.Proofs.YtbalcgjphkdecaaGreatDoor.To
namespace Go.Proofs.YtbalcgjphkdecaaGreatDoor.To
open Go.RowKit Go.Lg
set_option maxRecDepth 100000
attribute [local irreducible] JC JL JD RN RT Eff Yld YldIf Tr partsL okR splitL wordB joinD fit betweenS laidS viaS De.wrapB De.num De.clampI K Se.sealB Pa.byts Au.byts RP.byts Mg.byts Se.inc tillM
structure AC where
 p : P2
 t1 : Value
 t2 : Value
 t3 : Value
 rb : Nat
 sb : Nat
 na : Int
 nr : Int
def AC.cells (a : AC) : List Value := [sv a.p.1, sv a.p.2, a.t1, a.t2, a.t3, ptr a.rb, ptr a.sb, iv a.na, iv a.nr]
def acE (b : Nat) (a : AC) : Ent := (b, isC 131 a.cells)
def paC (p : Pa) : List Value := [sv p.cl.1, sv p.cl.2] ++ (ck (kf p.ses) ++ [sv p.tr, iv p.st, iv p.en])
theorem paC_eq {p : Pa} (h : p.ses.length = 32) : p.cells = paC p := by unfold Pa.cells paC; rw [ck_eq h, List.append_assoc]
set_option maxHeartbeats 4000000 in
theorem shownA_ok {ab : Nat} {a : AC} {bl : List RB} {RH r : List Ent} {W : World} (hB : RingB a.rb bl RH) (hm : bl.length ≤ 1000) {j k : Nat} {it : RI} (hl : lastAt (isPk a.p 1) (bl.map RB.it) 0 = some (j, it)) (hk : it.k = k)
  {q : Nat} (hq : q ≤ 1000002) {p : Pa} (hp : p.good) {w : Value} (hw : BV W r w (Se.sealB (K k) 2 (BitVec.ofNat 64 q) p.byts)) {now : Int} (hnow : tm now) (h1 : now ≤ p.en) (h2 : p.st ≤ now + 5) :
  Tr Pg 134 #[ptr ab, .agg #[sv a.p.1, sv a.p.2, iv 1, w], iv now] W (acE ab a :: (RH ++ r)) fun v l' => v = .tuple #[.agg (paC p).toArray, iv 0] ∧ l' = acE ab a :: (RH ++ r) := by
 subst hk
 have hpb := Pa.byts_le hp
 obtain ⟨n1, n2⟩ := hnow
 obtain ⟨q1, q2⟩ := hp.2.2.2.1
 obtain ⟨q3, q4⟩ := hp.2.2.2.2
 obtain ⟨Aw, cw, rfl, hsw, hcw, hnw⟩ := hw
 unfold acE
 refine Tr.of_code (args := [_, _, _]) Tryz.func134 rfl Tryz.ntmps134 lE_ ?_
 refine AU0 ?_
 refine JLs (e_box (cs := [sv a.p.1, sv a.p.2, iv 1, _]) rfl rfl fun b4 => ?_)
 refine JLs (e_alloc fun b6 => ?_)
 refine AU0 ?_
 refine JC.drawn 7 rfl mixed ?_
 refine JDp 0 rfl (y_fieldAddr rfl) ?_
 refine JDr 1 1 rfl rfl (r_loadA rfl lE_ rfl) ?_
 refine JDp 2 rfl y_mv ?_
 refine JDp 3 rfl (y_nilCheck rfl) ?_
 refine JDp 4 rfl (y_fieldAddr rfl) ?_
 refine JDr 5 2 rfl rfl (r_loadA rfl lE_ rfl) ?_
 refine JDp 6 rfl (y_neqAns (r := true) rfl rfl (by rw [← decide_eq_true (rfl : a.p = a.p)]; exact eq_princ a.p a.p) (by decide)) ?_
 refine JDd ?_
 refine AU0 ?_
 refine JC.drawn 16 rfl mixed ?_
 refine JDp 0 rfl y_mv ?_
 refine JDp 1 rfl (y_nilCheck rfl) ?_
 refine JDp 2 rfl (y_fieldAddr rfl) ?_
 refine JDr 3 2 rfl rfl (r_load1 rfl rfl) ?_
 refine JDp 4 rfl y_mv ?_
 refine JDp 5 rfl (y_nilCheck rfl) ?_
 refine JDp 6 rfl (y_fieldAddr rfl) ?_
 refine JDr 7 2 rfl rfl (r_loadA rfl lE_ rfl) ?_
 refine JDp 8 rfl (y_fieldAddr rfl) ?_
 refine JDr 9 1 rfl rfl (r_load1 rfl rfl) ?_
 refine JDe 10 rfl (e_call rfl rfl (Tr.perm (l' := RH ++ (_ :: _ :: (ab, isC 131 a.cells) :: r)) (perm_mid [_, _, _] RH r) (Box_ok (p := a.p) (kv := 1) hB hm hl)) ?_)
 rintro v l' ⟨rfl, x, hx, hxi, rfl⟩
 refine ⟨tok_, ?_⟩
 refine JDp 11 rfl y_mv ?_
 refine JDp 12 rfl (y_extract rfl rfl) ?_
 refine JDp 13 rfl (y_extract rfl rfl) ?_
 refine JDp 14 rfl y_as ?_
 refine JDp 15 rfl y_as ?_
 refine JDd ?_
 refine AU0 ?_
 refine JL.perm (l' := _ :: _ :: (ab, isC 131 a.cells) :: (RH ++ r)) (perm_mid [_, _, _] RH r).symm ?_
 refine AU3 ?_
 refine JLs (e_call rfl rfl (Tr.perm (l' := RH ++ (_ :: _ :: (ab, isC 131 a.cells) :: r)) (perm_mid [_, _, _] RH r) (ROpen_ok hB hx (u := 2) (n := q) (by decide) hq (ps := p.byts) (by omega) (by rw [hxi]; exact ⟨Aw, cw, rfl, hsw.mono fun e he => by simp [he], hcw, hnw⟩))) ?_)
 rintro v l' ⟨v1, le1, rfl, ho1, rfl⟩
 refine AU0 ?_
 refine JLs (e_call rfl rfl (DecodePart_ok hp (BV.mono (BV.own (W := W) ho1) fun e he => by simp [he])) ?_)
 rintro v l' ⟨rfl, rfl⟩
 rw [paC_eq hp.2.1]
 refine JL.sub (l' := RH ++ (_ :: _ :: (ab, isC 131 a.cells) :: r)) (List.sublist_append_right le1 _) ?_
 refine JL.perm (l' := _ :: _ :: (ab, isC 131 a.cells) :: (RH ++ r)) (perm_mid [_, _, _] RH r).symm ?_
 refine AU0 ?_
 refine JLs (e_alloc fun b11 => ?_)
 refine JLs (e_store 0 rfl rfl rfl (vs := paC p) rfl rfl rfl lE_ ?_)
 refine JL.cast (l' := (b11, isC 269 (paC p)) :: _ :: _ :: (ab, isC 131 a.cells) :: (RH ++ r)) rfl ?_
 refine AU1 ?_
 refine JLs (e_store 1 rfl rfl rfl (vs := paC p) rfl rfl rfl lE_ ?_)
 refine JL.cast (l' := (b11, isC 269 (paC p)) :: (b6, isC 269 (paC p)) :: _ :: (ab, isC 131 a.cells) :: (RH ++ r)) rfl ?_
 refine AU0 ?_
 exact JC.ret (ret_cell2 rfl rfl 1 rfl rfl rfl (by conv => lhs; whnf) (List.sublist_append_right [_, _, _] _) ⟨rfl, rfl⟩)
set_option maxHeartbeats 4000000 in
theorem provesA_ok {q : Nat} (hq : q ≤ 1000002) {a : Au} (ha : a.good) {p : Pa} (hp : p.good) (hcl : a.cl = p.cl) {v : Value} {r : List Ent} {W : World} (hv : BV W r v (Se.sealB p.ses 11 (BitVec.ofNat 64 q) a.byts)) :
  Tr Pg 135 #[.agg (paC p).toArray, v] W r fun v l' => v = .tuple #[.agg a.cells.toArray, iv 0] ∧ l' = r := by
 have hab := Au.byts_le ha
 obtain ⟨Aw, cw, rfl, hsw, hcw, hnw⟩ := hv
 refine Tr.of_code (args := [_, _]) Tryz.func135 rfl Tryz.ntmps135 lE_ ?_
 refine AU0 ?_
 refine JLs (e_box (cs := paC p) rfl rfl fun b2 => ?_)
 refine JLs (e_alloc fun b4 => ?_)
 refine AU2 ?_
 refine JLs (e_call (vs := [.agg (p.ses.map bv).toArray]) rfl (by rw [ck_eq hp.2.1]; rfl) (BNew_ok hp.2.1) ?_)
 rintro v l' ⟨xb, kb, rfl, rfl⟩
 refine AU0 ?_
 refine JLs (e_call rfl rfl (BOpen_ok hp.2.1 (u := 11) (n := q) (by decide) hq (ps := a.byts) (by omega) ⟨Aw, cw, rfl, hsw.mono fun e he => by simp [he], hcw, hnw⟩) ?_)
 rintro v l' ⟨v1, le1, rfl, ho1, rfl⟩
 refine AU0 ?_
 refine JLs (e_call rfl rfl (DecodeAuthn_ok ha (BV.mono (BV.own (W := W) ho1) fun e he => by simp [he])) ?_)
 rintro v l' ⟨rfl, rfl⟩
 refine JL.sub (l' := _ :: (b2, isC 269 (paC p)) :: r) ((List.sublist_append_right [_, _] _).trans (List.sublist_append_right le1 _)) ?_
 refine AU0 ?_
 refine JLs (e_alloc fun b7 => ?_)
 refine JLs (e_store 0 rfl rfl rfl (vs := a.cells) rfl rfl rfl lE_ ?_)
 refine JL.cast (l' := (b7, isC 250 a.cells) :: _ :: (b2, isC 269 (paC p)) :: r) rfl ?_
 refine AU0 ?_
 repeat (first | refine JLp (y_neqAns (r := true) rfl rfl (by rw [← decide_eq_true hcl]; exact eq_princ a.cl p.cl) (by decide)) ?_ | refine AS3 ?_)
 refine JLs (e_store 1 rfl rfl rfl (vs := a.cells) rfl rfl rfl lE_ ?_)
 refine JL.cast (l' := (b7, isC 250 a.cells) :: (b4, isC 250 a.cells) :: (b2, isC 269 (paC p)) :: r) rfl ?_
 refine AU0 ?_
 exact JC.ret (ret_cell2 rfl rfl 1 rfl rfl rfl (by conv => lhs; whnf) (List.sublist_append_right [_, _, _] _) ⟨rfl, rfl⟩)
set_option maxHeartbeats 4000000 in
theorem passedA_ok {ab : Nat} {a : AC} {r : List Ent} {W : World} {p : Pa} {ls : List S} {T : Topo} (hT : TopoV W r [a.t1, a.t2, a.t3] T) (ht : told p.tr ls = true) (hc : fitR p.cl.1 = true) (hto : fitR a.p.1 = true) (hin : p.cl.1 ∈ T.rs) (hvia : viaOk T p.cl.1 a.p.1 = true) (hln : ls.length ≤ 1000) (hall : ∀ x ∈ ls, x ∈ viaS T p.cl.1 a.p.1) :
  Tr Pg 136 #[ptr ab, .agg (paC p).toArray] W (acE ab a :: r) fun v l' => ∃ v1 le, v = .tuple #[v1, iv 0] ∧ Lg.Own 9 1 v1 ls.length (ls.map sv) le ∧ l' = le ++ (acE ab a :: r) := by
 simp only [fitR, Bool.and_eq_true] at hc hto
 obtain ⟨A1, c1, A2, c2, A3, c3, xs, hvs, -, hr1, -⟩ := id hT
 obtain ⟨ap, t1, t2, t3, rb, sb, na, nr⟩ := a
 dsimp only at *
 obtain rfl : t1 = .slice A1 T.rs.length c1 := by injection hvs
 simp only [viaOk, Bool.and_eq_true, decide_eq_true_eq, List.all_eq_true] at hvia
 obtain ⟨⟨⟨⟨⟨⟨⟨⟨⟨v1, v2⟩, v3⟩, v4⟩, v5⟩, v6⟩, v7⟩, v8⟩, v9⟩, v10⟩ := hvia
 unfold acE
 refine Tr.of_code (args := [_, _]) Tryz.func136 rfl Tryz.ntmps136 lE_ ?_
 refine AU0 ?_
 refine JLs (e_box (cs := paC p) rfl rfl fun b3 => ?_)
 refine AU0 ?_
 refine JC.drawn 16 rfl mixed ?_
 refine JDp 0 rfl (y_fieldAddr rfl) ?_
 refine JDr 1 0 rfl rfl (r_load1 rfl rfl) ?_
 refine JDp 2 rfl (y_fieldAddr rfl) ?_
 refine JDp 3 rfl (y_fieldAddr rfl) ?_
 refine JDr 4 0 rfl rfl (r_load1 rfl rfl) ?_
 refine JDp 5 rfl y_mv ?_
 refine JDp 6 rfl (y_nilCheck rfl) ?_
 refine JDp 7 rfl (y_fieldAddr rfl) ?_
 refine JDp 8 rfl (y_fieldAddr rfl) ?_
 refine JDr 9 1 rfl rfl (r_load1 rfl rfl) ?_
 refine JDe 10 rfl (e_call rfl rfl (Expand_ok ht hc.1 hc.2 hto.1 hto.2) ?_)
 rintro v l' ⟨v1, le, rfl, ho, rfl⟩
 obtain ⟨Ao, co, rfl, hso⟩ := SlV.own (W := W) ho
 refine ⟨tok_, ?_⟩
 refine JDp 11 rfl y_mv ?_
 refine JDp 12 rfl (y_extract rfl rfl) ?_
 refine JDp 13 rfl (y_extract rfl rfl) ?_
 refine JDp 14 rfl y_as ?_
 refine JDp 15 rfl y_as ?_
 refine JDd ?_
 refine RN.perm (l' := (b3, isC 269 (paC p)) :: (ab, isC 131 (AC.mk ap (.slice A1 T.rs.length c1) t2 t3 rb sb na nr).cells) :: (le ++ r)) (perm_mid [_, _] le r).symm ?_
 refine AU0 ?_
 refine JC.drawn 11 rfl mixed ?_
 refine JDp 0 rfl y_mv ?_
 refine JDp 1 rfl (y_nilCheck rfl) ?_
 refine JDp 2 rfl (y_fieldAddr rfl) ?_
 refine JDp 3 rfl (y_fieldAddr rfl) ?_
 refine JDr 4 1 rfl rfl (r_load1 rfl rfl) ?_
 refine JDp 5 rfl (y_fieldAddr rfl) ?_
 refine JDp 6 rfl (y_fieldAddr rfl) ?_
 refine JDr 7 0 rfl rfl (r_load1 rfl rfl) ?_
 refine JDe 8 rfl (e_call rfl rfl (ContainsS_ok p.cl.1 rfl (by omega) (hr1.1.mono fun e he => by simp [he])) ?_)
 rintro v l' ⟨rfl, rfl⟩
 rw [decide_eq_true hin]
 refine ⟨tok_, ?_⟩
 refine JDp 9 rfl (y_not rfl) ?_
 refine JDp 10 rfl y_as ?_
 refine JDd ?_
 refine AU0 ?_
 have hno : (!(ls.any fun s => !decide (s ∈ viaS T p.cl.1 ap.1))) = true := by
  rw [Bool.not_eq_true', List.any_eq_false]
  intro x hx
  rw [decide_eq_true (hall x hx)]
  decide
 refine JC.drawn 16 rfl mixed ?_
 refine JDp 0 rfl y_mv ?_
 refine JDp 1 rfl (y_nilCheck rfl) ?_
 refine JDp 2 rfl (y_fieldAddr rfl) ?_
 refine JDr 3 1 rfl rfl (r_loadA rfl lE_ rfl) ?_
 refine JDp 4 rfl (y_fieldAddr rfl) ?_
 refine JDp 5 rfl (y_fieldAddr rfl) ?_
 refine JDr 6 0 rfl rfl (r_load1 rfl rfl) ?_
 refine JDp 7 rfl y_mv ?_
 refine JDp 8 rfl (y_nilCheck rfl) ?_
 refine JDp 9 rfl (y_fieldAddr rfl) ?_
 refine JDp 10 rfl (y_fieldAddr rfl) ?_
 refine JDr 11 1 rfl rfl (r_load1 rfl rfl) ?_
 refine JDp 12 rfl y_mv ?_
 refine JDe 13 rfl (e_call rfl rfl (Allowed_ok (hT.mono fun e he => by simp [he]) v2 v3 v5 v6 v7 v8 v9 v10 rfl hln (hso.1.mono fun e he => by simp [he])) ?_)
 rintro v l' ⟨rfl, rfl⟩
 rw [hno]
 refine ⟨tok_, ?_⟩
 refine JDp 14 rfl (y_not rfl) ?_
 refine JDp 15 rfl y_as ?_
 refine JDd ?_
 refine AU0 ?_
 refine JC.sub (List.sublist_cons_self _ _) (JC.perm (perm_mid [_] le r) (JC.ret (RT.two rfl rfl rfl rfl ⟨_, le, rfl, ho, rfl⟩)))
end Go.Proofs.YtbalcgjphkdecaaGreatDoor.To
namespace Go.Proofs.YtbalcgjphkdecaaGreatDoor.To
open Go.RowKit Go.Lg
set_option maxRecDepth 100000
theorem acceptM_spec {T : Topo} {a a' : AcS} {m : MS} {now : Int} {res : Option AccS} (h : acceptM T a m now = some (a', res)) : ∃ tk au, m = .ap tk au ∧ (MS.ap tk au).okb = true ∧ tm now ∧ tk.sv_ = a.p ∧ tk.kv = 1 ∧ tk.k = a.k ∧ now ≤ tk.pa.en ∧ tk.pa.st ≤ now + 5 ∧ au.k = tk.pa.ses ∧ au.u = 11 ∧ au.a.cl = tk.pa.cl ∧ told (cat tk.pa.tr) tk.pa.tr = true ∧
  fitR tk.pa.cl.1 = true ∧ fitR a.p.1 = true ∧ tk.pa.cl.1 ∈ T.rs ∧ viaOk T tk.pa.cl.1 a.p.1 = true ∧ tk.pa.tr.length ≤ 1000 ∧ (∀ x ∈ tk.pa.tr, x ∈ viaS T tk.pa.cl.1 a.p.1) ∧ a.seen = [] ∧
  (((au.a.tm_ ≤ now + 5 ∧ now - 5 ≤ au.a.tm_) ∧ a' = ⟨a.p, a.k, [au.a]⟩ ∧ res = some ⟨tk.pa.cl, a.p, tk.pa.ses, tk.pa.tr, au.a.tm_, au.a.sq⟩) ∨ (¬(au.a.tm_ ≤ now + 5 ∧ now - 5 ≤ au.a.tm_) ∧ a' = a ∧ res = none)) := by
 unfold acceptM at h
 split at h
 case h_2 => cases h
 rename_i tk au
 split at h
 case isFalse => cases h
 rename_i hc
 simp only [Bool.and_eq_true, decide_eq_true_eq, List.all_eq_true] at hc
 obtain ⟨⟨⟨⟨⟨⟨⟨⟨⟨⟨⟨⟨⟨⟨⟨⟨⟨c1, c2⟩, c3⟩, c4⟩, c5⟩, c6⟩, c7⟩, c8⟩, c9⟩, c10⟩, c11⟩, c12⟩, c13⟩, c14⟩, c15⟩, c16⟩, c17⟩, c18⟩ := hc
 refine ⟨tk, au, rfl, c1, tmb_spec c2, c3, c4, c5, c6, c7, c8, c9, c10, c11, c12, c13, c14, c15, c16, c17, List.eq_nil_of_length_eq_zero c18, ?_⟩
 split at h
 ·rename_i hq
  cases h
  exact .inl ⟨hq, rfl, rfl⟩
 ·rename_i hq
  cases h
  exact .inr ⟨hq, rfl, rfl⟩
theorem lastAt_one {α : Type} {q : α → Bool} {x : α} {i : Nat} (h : q x = true) : lastAt q [x] i = some (i, x) := by simp [lastAt, h]
def accC (x : AccS) (tv : Value) : List Value := [sv x.cl.1, sv x.cl.2, sv x.sv_.1, sv x.sv_.2] ++ (ck (kf (K x.ses)) ++ [tv, iv x.tm_, iv x.sq])
def accZ : List Value := [sv [], sv [], sv [], sv []] ++ (ck (fun _ => .int .u8 0) ++ [nl, iv 0, iv 0])
def AcB (W : World) (T : Topo) (b : Nat) (a : AcS) (H : List Ent) : Prop := ∃ t1 t2 t3 TH rb RH bl sb u na nr, TopoV W TH [t1, t2, t3] T ∧ RingB rb bl RH ∧ bl.map RB.it = [⟨a.p, 1, a.k⟩] ∧ (a.seen = [] → u = nl) ∧ H = acE b ⟨a.p, t1, t2, t3, rb, sb, na, nr⟩ :: rpE sb u :: (RH ++ TH)
def TakeA (W : World) (T : Topo) (b : Nat) (a' : AcS) (r : List Ent) (res : Option AccS) (v : Value) (l' : List Ent) : Prop := ∃ H', AcB W T b a' H' ∧ match res with
 | some x => ∃ tv le, v = .tuple #[.agg (accC x tv).toArray, iv 0] ∧ Lg.Own 9 1 tv x.tr.length (x.tr.map sv) le ∧ l' = le ++ (H' ++ r)
 | none => v = .tuple #[.agg accZ.toArray, iv 8] ∧ l' = H' ++ r
attribute [local irreducible] JC JL JD RN RT Eff Yld YldIf Tr partsL okR splitL wordB joinD fit betweenS laidS viaS De.wrapB De.num De.clampI K Se.sealB Pa.byts Au.byts RP.byts Mg.byts Se.inc tillM
set_option maxHeartbeats 4000000 in
theorem takesA_ok {T : Topo} {a a' : AcS} {m : MS} {now : Int} {res : Option AccS} (h : acceptM T a m now = some (a', res)) {b : Nat} {H r : List Ent} {W : World} (hB : AcB W T b a H) {v : Value} (hv : BV W r v m.mg.byts) :
  Tr Pg 100 #[ptr b, v, iv now] W (H ++ r) (TakeA W T b a' r res) := by
 obtain ⟨tk, au, rfl, hok, hnow, c3, c4, c5, c6, c7, c8, c9, c10, c11, c12, c13, c14, c15, c16, c17, c18, hres⟩ := acceptM_spec h
 obtain ⟨t1, t2, t3, TH, rb, RH, bl, sb, u, na, nr, hT, hR, hbl, hu, rfl⟩ := hB
 obtain rfl := hu c18
 obtain ⟨tsv, tkv, tkk, tn, pa⟩ := tk
 dsimp only at c3 c4 c5 c6 c7 c8 c10 c11 c12 c14 c15 c16 c17 hres
 subst c3 c4 c5
 have hg := MS.okb_spec hok
 have hok' := hok
 simp only [MS.okb, Bool.and_eq_true] at hok'
 obtain ⟨htk, htn, hpa, htp⟩ := TkS.okb_spec hok'.1
 have hau := AuS.okb_spec hok'.2
 obtain ⟨n1, n2⟩ := hnow
 have hm : bl.length ≤ 1000 := by have := congrArg List.length hbl; simp at this; omega
 refine Tr.of_code (args := [_, _, _]) Tryz.func100 rfl Tryz.ntmps100 lE_ ?_
 refine AU0 ?_
 refine JLs (e_alloc fun b6 => ?_)
 refine AU0 ?_
 refine JL.cast (l' := (b6, isC 57 accZ) :: ((acE b ⟨a.p, t1, t2, t3, rb, sb, na, nr⟩ :: rpE sb nl :: (RH ++ TH)) ++ r)) rfl ?_
 refine JLs (e_call rfl rfl (Decode_ok hg (hv.mono fun e he => by simp [he])) ?_)
 rintro v l' ⟨w1, w2, le0, rfl, hm0, rfl⟩
 obtain ⟨⟨dA, dc, rfl, hds⟩, ⟨vA, vc, rfl, hvs⟩⟩ := id hm0
 refine AU0 ?_
 refine JLs (e_alloc fun b8 => ?_)
 refine JLs (e_store 0 rfl rfl rfl (vs := ((Mg.ap ⟨((TkS.mk a.p 1 a.k tn pa)).tk, au.b⟩)).cells (.slice dA ((TkS.mk a.p 1 a.k tn pa)).tk.bl.length dc) (.slice vA au.b.length vc)) rfl rfl rfl lE_ ?_)
 refine JL.cast (l' := (b8, isC 207 (((Mg.ap ⟨((TkS.mk a.p 1 a.k tn pa)).tk, au.b⟩)).cells (.slice dA ((TkS.mk a.p 1 a.k tn pa)).tk.bl.length dc) (.slice vA au.b.length vc))) :: (le0 ++ ((b6, isC 57 accZ) :: ((acE b ⟨a.p, t1, t2, t3, rb, sb, na, nr⟩ :: rpE sb nl :: (RH ++ TH)) ++ r)))) rfl ?_
 refine JL.perm (l' := (b8, isC 207 (((Mg.ap ⟨((TkS.mk a.p 1 a.k tn pa)).tk, au.b⟩)).cells (.slice dA ((TkS.mk a.p 1 a.k tn pa)).tk.bl.length dc) (.slice vA au.b.length vc))) :: (b6, isC 57 accZ) :: acE b ⟨a.p, t1, t2, t3, rb, sb, na, nr⟩ :: rpE sb nl :: (RH ++ (TH ++ (le0 ++ r)))) prm_ ?_
 repeat (first | refine JLp (y_neq (a := 4) (b := 4) rfl rfl (r := false) (decide_eq_true rfl)) ?_ | refine AS1 ?_)
 refine JLs (e_call rfl rfl (Tr.perm (l' := acE b ⟨a.p, t1, t2, t3, rb, sb, na, nr⟩ :: (RH ++ (rpE sb nl :: (b8, isC 207 (((Mg.ap ⟨((TkS.mk a.p 1 a.k tn pa)).tk, au.b⟩)).cells (.slice dA ((TkS.mk a.p 1 a.k tn pa)).tk.bl.length dc) (.slice vA au.b.length vc))) :: (b6, isC 57 accZ) :: (TH ++ (le0 ++ r))))) prm_ (shownA_ok (a := ⟨a.p, t1, t2, t3, rb, sb, na, nr⟩) hR hm (j := 0) (k := a.k) (it := ⟨a.p, 1, a.k⟩) (by rw [hbl]; exact lastAt_one (by simp [isPk])) rfl (q := tn) (by have := htn; dsimp only at this; omega) (p := pa.pa) hpa (BV.mono ⟨dA, dc, rfl, hds⟩ fun e he => by simp [he]) ⟨n1, n2⟩ c6 c7)) ?_)
 rintro v l' ⟨rfl, rfl⟩
 refine AU0 ?_
 refine JLs (e_alloc fun b10 => ?_)
 refine JLs (e_store 0 rfl rfl rfl (vs := paC pa.pa) rfl rfl rfl lE_ ?_)
 refine JL.cast (l' := (b10, isC 269 (paC pa.pa)) :: acE b ⟨a.p, t1, t2, t3, rb, sb, na, nr⟩ :: (RH ++ (rpE sb nl :: (b8, isC 207 (((Mg.ap ⟨((TkS.mk a.p 1 a.k tn pa)).tk, au.b⟩)).cells (.slice dA ((TkS.mk a.p 1 a.k tn pa)).tk.bl.length dc) (.slice vA au.b.length vc))) :: (b6, isC 57 accZ) :: (TH ++ (le0 ++ r))))) rfl ?_
 refine JL.perm (l' := (b10, isC 269 (paC pa.pa)) :: (b8, isC 207 (((Mg.ap ⟨((TkS.mk a.p 1 a.k tn pa)).tk, au.b⟩)).cells (.slice dA ((TkS.mk a.p 1 a.k tn pa)).tk.bl.length dc) (.slice vA au.b.length vc))) :: (b6, isC 57 accZ) :: acE b ⟨a.p, t1, t2, t3, rb, sb, na, nr⟩ :: rpE sb nl :: (RH ++ (TH ++ (le0 ++ r)))) prm_ ?_
 have e1 : Se.sealB pa.pa.ses 11 (BitVec.ofNat 64 au.n) au.a.byts = au.b := by unfold AuS.b PaS.pa; rw [c8, c9]
 refine AU2 ?_
 refine JLs (e_call rfl rfl (provesA_ok (p := pa.pa) (q := au.n) (a := au.a) (by have := hau.2.2.1; omega) hau.2.2.2 hpa c10 (by rw [e1]; exact BV.mono ⟨vA, vc, rfl, hvs⟩ fun e he => by simp [he])) ?_)
 rintro v l' ⟨rfl, rfl⟩
 refine AU0 ?_
 refine JLs (e_alloc fun b11 => ?_)
 refine JLs (e_store 0 rfl rfl rfl (vs := au.a.cells) rfl rfl rfl lE_ ?_)
 refine JL.cast (l' := (b11, isC 250 au.a.cells) :: (b10, isC 269 (paC pa.pa)) :: (b8, isC 207 (((Mg.ap ⟨((TkS.mk a.p 1 a.k tn pa)).tk, au.b⟩)).cells (.slice dA ((TkS.mk a.p 1 a.k tn pa)).tk.bl.length dc) (.slice vA au.b.length vc))) :: (b6, isC 57 accZ) :: acE b ⟨a.p, t1, t2, t3, rb, sb, na, nr⟩ :: rpE sb nl :: (RH ++ (TH ++ (le0 ++ r)))) rfl ?_
 refine AU2 ?_
 refine JLs (e_call rfl rfl (Tr.perm (l' := acE b ⟨a.p, t1, t2, t3, rb, sb, na, nr⟩ :: ((b11, isC 250 au.a.cells) :: (b10, isC 269 (paC pa.pa)) :: (b8, isC 207 (((Mg.ap ⟨((TkS.mk a.p 1 a.k tn pa)).tk, au.b⟩)).cells (.slice dA ((TkS.mk a.p 1 a.k tn pa)).tk.bl.length dc) (.slice vA au.b.length vc))) :: (b6, isC 57 accZ) :: rpE sb nl :: (RH ++ (TH ++ (le0 ++ r))))) prm_ (passedA_ok (a := ⟨a.p, t1, t2, t3, rb, sb, na, nr⟩) (p := pa.pa) (ls := pa.tr) (T := T) (hT.mono fun e he => by simp [he]) c11 c12 c13 c14 c15 c16 c17)) ?_)
 rintro v l' ⟨v1, le1, rfl, ho1, rfl⟩
 obtain ⟨oA, oc, rfl, hso⟩ := SlV.own (W := W) ho1
 refine JL.perm (l' := (b11, isC 250 au.a.cells) :: (b10, isC 269 (paC pa.pa)) :: (b8, isC 207 (((Mg.ap ⟨((TkS.mk a.p 1 a.k tn pa)).tk, au.b⟩)).cells (.slice dA ((TkS.mk a.p 1 a.k tn pa)).tk.bl.length dc) (.slice vA au.b.length vc))) :: (b6, isC 57 accZ) :: acE b ⟨a.p, t1, t2, t3, rb, sb, na, nr⟩ :: rpE sb nl :: (le1 ++ (RH ++ (TH ++ (le0 ++ r))))) prm_ ?_
 refine AU0 ?_
 obtain ⟨hc, rfl, rfl⟩ | ⟨hc, ha', rfl⟩ := hres
 ·refine JC.drawn 8 rfl mixed ?_
  refine JDp 0 rfl y_mv ?_
  refine JDp 1 rfl (y_nilCheck rfl) ?_
  refine JDp 2 rfl (y_fieldAddr rfl) ?_
  refine JDr 3 4 rfl rfl (r_load1 rfl rfl) ?_
  refine JDr 4 0 rfl rfl (r_loadA rfl lE_ rfl) ?_
  refine JDp 5 rfl y_mv ?_
  refine JDe 6 rfl (e_call rfl rfl (Tr.perm (l' := rpE sb nl :: ((b11, isC 250 au.a.cells) :: (b10, isC 269 (paC pa.pa)) :: (b8, isC 207 (((Mg.ap ⟨((TkS.mk a.p 1 a.k tn pa)).tk, au.b⟩)).cells (.slice dA ((TkS.mk a.p 1 a.k tn pa)).tk.bl.length dc) (.slice vA au.b.length vc))) :: (b6, isC 57 accZ) :: acE b ⟨a.p, t1, t2, t3, rb, sb, na, nr⟩ :: (le1 ++ (RH ++ (TH ++ (le0 ++ r)))))) prm_ ((See_ok hau.2.2.2 ⟨n1, n2⟩).mono fun v l' h => h.resolve_right fun hh => hh.1 hc)) ?_)
  rintro v l' ⟨-, rfl, u, le2, rfl⟩
  refine ⟨tok_, ?_⟩
  refine JD.perm (l' := (b11, isC 250 au.a.cells) :: (b10, isC 269 (paC pa.pa)) :: (b8, isC 207 (((Mg.ap ⟨((TkS.mk a.p 1 a.k tn pa)).tk, au.b⟩)).cells (.slice dA ((TkS.mk a.p 1 a.k tn pa)).tk.bl.length dc) (.slice vA au.b.length vc))) :: (b6, isC 57 accZ) :: acE b ⟨a.p, t1, t2, t3, rb, sb, na, nr⟩ :: rpE sb u :: (le1 ++ (RH ++ (TH ++ (le0 ++ (le2 ++ r)))))) prm_ ?_
  refine JDp 7 rfl y_as ?_
  refine JDd ?_
  repeat (first | refine JLp (y_neq (a := 0) (b := 0) rfl rfl (r := false) (decide_eq_true rfl)) ?_ | refine AS0 ?_)
  refine JC.drawn 16 rfl mixed ?_
  refine JDp 0 rfl (y_fieldAddr rfl) ?_
  refine JDr 1 1 rfl rfl (r_loadA rfl lE_ rfl) ?_
  refine JDp 2 rfl y_mv ?_
  refine JDp 3 rfl (y_nilCheck rfl) ?_
  refine JDp 4 rfl (y_fieldAddr rfl) ?_
  refine JDr 5 4 rfl rfl (r_loadA rfl lE_ rfl) ?_
  refine JDp 6 rfl (y_fieldAddr rfl) ?_
  refine JDr 7 1 rfl rfl (r_loadA rfl lE_ rfl) ?_
  refine JDp 8 rfl y_mv ?_
  refine JDp 9 rfl (y_fieldAddr rfl) ?_
  refine JDr 10 0 rfl rfl (r_load1 rfl rfl) ?_
  refine JDp 11 rfl (y_fieldAddr rfl) ?_
  refine JDr 12 0 rfl rfl (r_load1 rfl rfl) ?_
  refine JDp 13 rfl (y_build (cells := (accC ⟨pa.cl, a.p, pa.ses, pa.tr, au.a.tm_, au.a.sq⟩ (.slice oA pa.tr.length oc)).toArray) (by kernel_rfl)) ?_
  refine JDe 14 rfl (e_store 3 rfl rfl rfl (vs := accC ⟨pa.cl, a.p, pa.ses, pa.tr, au.a.tm_, au.a.sq⟩ (.slice oA pa.tr.length oc)) rfl rfl rfl lE_ ⟨tok_, ?_⟩)
  refine JDp 15 rfl y_as ?_
  refine JDd ?_
  refine RN.cast (l' := (b11, isC 250 au.a.cells) :: (b10, isC 269 (paC pa.pa)) :: (b8, isC 207 (((Mg.ap ⟨((TkS.mk a.p 1 a.k tn pa)).tk, au.b⟩)).cells (.slice dA ((TkS.mk a.p 1 a.k tn pa)).tk.bl.length dc) (.slice vA au.b.length vc))) :: (b6, isC 57 (accC ⟨pa.cl, a.p, pa.ses, pa.tr, au.a.tm_, au.a.sq⟩ (.slice oA pa.tr.length oc))) :: acE b ⟨a.p, t1, t2, t3, rb, sb, na, nr⟩ :: rpE sb u :: (le1 ++ (RH ++ (TH ++ (le0 ++ (le2 ++ r)))))) rfl ?_
  refine AU0 ?_
  refine JC.sub (l' := (b6, isC 57 (accC ⟨pa.cl, a.p, pa.ses, pa.tr, au.a.tm_, au.a.sq⟩ (.slice oA pa.tr.length oc))) :: acE b ⟨a.p, t1, t2, t3, rb, sb, na, nr⟩ :: rpE sb u :: (le1 ++ (RH ++ (TH ++ r)))) (.cons _ (.cons _ (.cons _ (List.Sublist.cons_cons _ (List.Sublist.cons_cons _ (List.Sublist.cons_cons _ (List.Sublist.append_left (List.Sublist.append_left (List.Sublist.append_left ((List.sublist_append_right le2 r).trans (List.sublist_append_right le0 _)) _) _) _))))))) ?_
  refine JC.perm (l' := (b6, isC 57 (accC ⟨pa.cl, a.p, pa.ses, pa.tr, au.a.tm_, au.a.sq⟩ (.slice oA pa.tr.length oc))) :: (le1 ++ ((acE b ⟨a.p, t1, t2, t3, rb, sb, na, nr⟩ :: rpE sb u :: (RH ++ TH)) ++ r))) prm_ ?_
  exact JC.ret (ret_cell2 rfl rfl 0 rfl rfl rfl (by conv => lhs; whnf) (List.sublist_cons_self _ _) ⟨_, ⟨t1, t2, t3, TH, rb, RH, bl, sb, u, na, nr, hT, hR, hbl, (fun h => by cases h), rfl⟩, _, le1, rfl, ho1, rfl⟩)
 ·refine JC.drawn 8 rfl mixed ?_
  refine JDp 0 rfl y_mv ?_
  refine JDp 1 rfl (y_nilCheck rfl) ?_
  refine JDp 2 rfl (y_fieldAddr rfl) ?_
  refine JDr 3 4 rfl rfl (r_load1 rfl rfl) ?_
  refine JDr 4 0 rfl rfl (r_loadA rfl lE_ rfl) ?_
  refine JDp 5 rfl y_mv ?_
  refine JDe 6 rfl (e_call rfl rfl (Tr.perm (l' := rpE sb nl :: ((b11, isC 250 au.a.cells) :: (b10, isC 269 (paC pa.pa)) :: (b8, isC 207 (((Mg.ap ⟨((TkS.mk a.p 1 a.k tn pa)).tk, au.b⟩)).cells (.slice dA ((TkS.mk a.p 1 a.k tn pa)).tk.bl.length dc) (.slice vA au.b.length vc))) :: (b6, isC 57 accZ) :: acE b ⟨a.p, t1, t2, t3, rb, sb, na, nr⟩ :: (le1 ++ (RH ++ (TH ++ (le0 ++ r)))))) prm_ ((See_ok hau.2.2.2 ⟨n1, n2⟩).mono fun v l' h => h.resolve_left fun hh => hc hh.1)) ?_)
  rintro v l' ⟨-, rfl, rfl⟩
  refine ⟨tok_, ?_⟩
  refine JD.perm (l' := (b6, isC 57 accZ) :: (b11, isC 250 au.a.cells) :: (b10, isC 269 (paC pa.pa)) :: (b8, isC 207 (((Mg.ap ⟨((TkS.mk a.p 1 a.k tn pa)).tk, au.b⟩)).cells (.slice dA ((TkS.mk a.p 1 a.k tn pa)).tk.bl.length dc) (.slice vA au.b.length vc))) :: acE b ⟨a.p, t1, t2, t3, rb, sb, na, nr⟩ :: rpE sb nl :: (le1 ++ (RH ++ (TH ++ (le0 ++ r))))) prm_ ?_
  refine JDp 7 rfl y_as ?_
  refine JDd ?_
  repeat (first | refine JLp (y_neq (a := 8) (b := 0) rfl rfl (r := true) (decide_eq_false (by decide))) ?_ | refine AS0 ?_)
  refine JLp (y_build (cells := accZ.toArray) (by kernel_rfl)) ?_
  refine AU0 ?_
  refine JLs (e_store 0 rfl rfl rfl (vs := accZ) rfl rfl rfl lE_ ?_)
  refine JL.cast (l' := (b6, isC 57 accZ) :: (b11, isC 250 au.a.cells) :: (b10, isC 269 (paC pa.pa)) :: (b8, isC 207 (((Mg.ap ⟨((TkS.mk a.p 1 a.k tn pa)).tk, au.b⟩)).cells (.slice dA ((TkS.mk a.p 1 a.k tn pa)).tk.bl.length dc) (.slice vA au.b.length vc))) :: acE b ⟨a.p, t1, t2, t3, rb, sb, na, nr⟩ :: rpE sb nl :: (le1 ++ (RH ++ (TH ++ (le0 ++ r))))) rfl ?_
  refine AU0 ?_
  refine JC.sub (l' := (b6, isC 57 accZ) :: acE b ⟨a.p, t1, t2, t3, rb, sb, na, nr⟩ :: rpE sb nl :: (RH ++ (TH ++ r))) (List.Sublist.cons_cons _ (.cons _ (.cons _ (.cons _ (List.Sublist.cons_cons _ (List.Sublist.cons_cons _ ((List.Sublist.append_left (List.Sublist.append_left (List.sublist_append_right le0 r) _) _).trans (List.sublist_append_right le1 _)))))))) ?_
  refine JC.perm (l' := (b6, isC 57 accZ) :: ((acE b ⟨a.p, t1, t2, t3, rb, sb, na, nr⟩ :: rpE sb nl :: (RH ++ TH)) ++ r)) (by simp only [List.cons_append, List.append_assoc]; exact List.Perm.refl _) ?_
  exact JC.ret (ret_cell2 rfl rfl 0 rfl rfl rfl (by conv => lhs; whnf) (List.sublist_cons_self _ _) ⟨_, ha'.symm ▸ ⟨t1, t2, t3, TH, rb, RH, bl, sb, nl, na, nr, hT, hR, hbl, fun _ => rfl, rfl⟩, rfl, rfl⟩)
set_option maxHeartbeats 4000000 in
theorem TakeA_ok {T : Topo} {a a' : AcS} {m : MS} {now : Int} {res : Option AccS} (h : acceptM T a m now = some (a', res)) {b : Nat} {H r : List Ent} {W : World} (hB : AcB W T b a H) {v : Value} (hv : BV W r v m.mg.byts) :
  Tr Pg 55 #[ptr b, v, iv now] W (H ++ r) (TakeA W T b a' r res) := by
 refine Tr.of_code (args := [_, _, _]) Tryz.func55 rfl Tryz.ntmps55 lE_ ?_
 refine AU0 ?_
 refine JLs (e_alloc fun b6 => ?_)
 refine AU0 ?_
 refine JL.perm (l' := H ++ ((b6, isC 57 accZ) :: r)) (perm_mid [_] H r) ?_
 refine JLs (e_call rfl rfl (takesA_ok h hB (hv.mono fun e he => by simp [he])) ?_)
 rintro v l' ⟨H', ⟨t1, t2, t3, TH, rb, RH, bl, sb, u, na, nr, hT, hR, hbl, hu, rfl⟩, hr⟩
 cases res with
 | none =>
  obtain ⟨rfl, rfl⟩ := hr
  refine AU0 ?_
  refine JLs (e_alloc fun b8 => ?_)
  refine JLs (e_store 0 rfl rfl rfl (vs := accZ) rfl rfl rfl lE_ ?_)
  refine JL.perm (l' := (b8, isC 57 accZ) :: (b6, isC 57 accZ) :: acE b ⟨a'.p, t1, t2, t3, rb, sb, na, nr⟩ :: rpE sb u :: (RH ++ (TH ++ r))) (by refine List.Perm.trans (List.Perm.refl ((b8, isC 57 accZ) :: ((acE b ⟨a'.p, t1, t2, t3, rb, sb, na, nr⟩ :: rpE sb u :: (RH ++ TH)) ++ ((b6, isC 57 accZ) :: r)))) ?_; exact prm_) ?_
  repeat (first | refine JLp (y_eql (a := 8) (b := 0) rfl rfl (decide_eq_false (by decide))) ?_ | refine AS0 ?_)
  refine JLs (e_call rfl rfl (Se.Add64_ok (o := 8) (x := nr) 2 rfl rfl) ?_)
  rintro v l' ⟨rfl, rfl⟩
  refine JL.cast (l' := (b8, isC 57 accZ) :: (b6, isC 57 accZ) :: acE b ⟨a'.p, t1, t2, t3, rb, sb, na, Se.inc nr⟩ :: rpE sb u :: (RH ++ (TH ++ r))) rfl ?_
  refine AU1 ?_
  refine JLs (e_store 1 rfl rfl rfl (vs := accZ) rfl rfl rfl lE_ ?_)
  refine JL.cast (l' := (b8, isC 57 accZ) :: (b6, isC 57 accZ) :: acE b ⟨a'.p, t1, t2, t3, rb, sb, na, Se.inc nr⟩ :: rpE sb u :: (RH ++ (TH ++ r))) rfl ?_
  refine AU0 ?_
  refine JC.perm (l' := (b8, isC 57 accZ) :: (b6, isC 57 accZ) :: ((acE b ⟨a'.p, t1, t2, t3, rb, sb, na, Se.inc nr⟩ :: rpE sb u :: (RH ++ TH)) ++ r)) (by simp only [List.cons_append, List.append_assoc]; exact List.Perm.refl _) ?_
  exact JC.ret (ret_cell2 rfl rfl 1 rfl rfl rfl (by conv => lhs; whnf) (List.sublist_append_right [_, _] _) ⟨_, ⟨t1, t2, t3, TH, rb, RH, bl, sb, u, na, Se.inc nr, hT, hR, hbl, hu, rfl⟩, rfl, rfl⟩)
 | some x =>
  obtain ⟨tv, le, rfl, ho, rfl⟩ := hr
  obtain ⟨oA, oc, rfl, hso⟩ := SlV.own (W := W) ho
  refine AU0 ?_
  refine JLs (e_alloc fun b8 => ?_)
  refine JLs (e_store 0 rfl rfl rfl (vs := accC x (.slice oA x.tr.length oc)) rfl rfl rfl lE_ ?_)
  refine JL.perm (l' := (b8, isC 57 (accC x (.slice oA x.tr.length oc))) :: (b6, isC 57 accZ) :: acE b ⟨a'.p, t1, t2, t3, rb, sb, na, nr⟩ :: rpE sb u :: (le ++ (RH ++ (TH ++ r)))) (by refine List.Perm.trans (List.Perm.refl ((b8, isC 57 (accC x (.slice oA x.tr.length oc))) :: (le ++ ((acE b ⟨a'.p, t1, t2, t3, rb, sb, na, nr⟩ :: rpE sb u :: (RH ++ TH)) ++ ((b6, isC 57 accZ) :: r))))) ?_; exact prm_) ?_
  repeat (first | refine JLp (y_eql (a := 0) (b := 0) rfl rfl (decide_eq_true rfl)) ?_ | refine AS0 ?_)
  refine JLs (e_call rfl rfl (Se.Add64_ok (o := 7) (x := na) 2 rfl rfl) ?_)
  rintro v l' ⟨rfl, rfl⟩
  refine JL.cast (l' := (b8, isC 57 (accC x (.slice oA x.tr.length oc))) :: (b6, isC 57 accZ) :: acE b ⟨a'.p, t1, t2, t3, rb, sb, Se.inc na, nr⟩ :: rpE sb u :: (le ++ (RH ++ (TH ++ r)))) rfl ?_
  refine AU1 ?_
  refine JLs (e_store 1 rfl rfl rfl (vs := accC x (.slice oA x.tr.length oc)) rfl rfl rfl lE_ ?_)
  refine JL.cast (l' := (b8, isC 57 (accC x (.slice oA x.tr.length oc))) :: (b6, isC 57 (accC x (.slice oA x.tr.length oc))) :: acE b ⟨a'.p, t1, t2, t3, rb, sb, Se.inc na, nr⟩ :: rpE sb u :: (le ++ (RH ++ (TH ++ r)))) rfl ?_
  refine AU0 ?_
  refine JC.perm (l' := (b8, isC 57 (accC x (.slice oA x.tr.length oc))) :: (b6, isC 57 (accC x (.slice oA x.tr.length oc))) :: (le ++ ((acE b ⟨a'.p, t1, t2, t3, rb, sb, Se.inc na, nr⟩ :: rpE sb u :: (RH ++ TH)) ++ r))) prm_ ?_
  exact JC.ret (ret_cell2 rfl rfl 1 rfl rfl rfl (by conv => lhs; whnf) (List.sublist_append_right [_, _] _) ⟨_, ⟨t1, t2, t3, TH, rb, RH, bl, sb, u, Se.inc na, nr, hT, hR, hbl, hu, rfl⟩, _, le, rfl, ho, rfl⟩)
end Go.Proofs.YtbalcgjphkdecaaGreatDoor.To
