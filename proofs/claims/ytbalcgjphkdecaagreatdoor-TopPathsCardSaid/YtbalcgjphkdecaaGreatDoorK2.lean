/- What the law of the whole stands on, part 2 of 6: the heap as it lies, and a contract for each function that the law reaches. -/
import Derived.RangeFuncBox
import Derived.RangeFuncLeaves
import Derived.RangeFuncFrom
import Derived.RangeFuncCalls
import Derived.Shelf.Abstract
import Derived.WalkKit
import Derived.OwnWalkIn
import Derived.TacticsInMore
import Derived.LoopNIn
import Derived.LoopIn
import Derived.ProofKit
import Derived.OpenShut
import Derived.ShutString
import Derived.ChangeOld
import Derived.Below
import Derived.Laws.IdiomStrings
import Derived.Laws.RangeString
import Derived.Test.YtbalcgjphkdecaaGreatDoorK1
set_option linter.unusedVariables false
set_option linter.unusedSimpArgs false
namespace Go.Proofs.YtbalcgjphkdecaaGreatDoor.To
open Go.RowKit Go.Lg
set_option maxRecDepth 100000
attribute [local irreducible] JC JL JD RN RT Eff Yld YldIf Tr
theorem look_elem {α : Type} {W : World} {S' : Option Ent} {b o : Nat} (enc : α → List Value) {sz : Nat} (he : ∀ x, (enc x).length = sz) {xs : List α} (h : ∀ j u, (xs.flatMap enc)[j]? = some u → ∀ w, (TS W ([], S')).2 w → w.cell? ⟨b, o + j, none⟩ = some u) {i : Nat} {x : α} (hi : xs[i]? = some x) :
  ∀ w, (TS W ([], S')).2 w → ∀ j u, (enc x)[j]? = some u → w.cell? ⟨b, o + i * sz + j, none⟩ = some u := fun w hw j u hu => by
 have hj : j < sz := by rw [← he x]; exact (List.getElem?_eq_some_iff.1 hu).1
 rw [Nat.add_assoc]
 exact h _ u (by rw [row_at enc he xs hi hj]; exact hu) w hw
set_option maxHeartbeats 1000000 in
theorem IndexP_ok {A : Option Addr} {n c : Nat} {xs : List P2} (x : P2) {W : World} {r : List Ent} (hn : xs.length = n) (hm : n ≤ 1000000) (hs : Src W r A (xs.flatMap enc2)) :
  Tr Pg 109 #[.slice A n c, pv x] W r fun v l' => v = .int .i64 (idxF (fun y => decide (x = y)) xs 0) ∧ l' = r := by
 refine Tr.of_code (args := [_, _]) Tryz.func109 rfl Tryz.ntmps109 lE_ ?_
 refine AU0 ?_
 refine JLs (e_box (cs := enc2 x) rfl rfl fun bx => ?_)
 refine AU0 ?_
 refine JC.loop (fun m f l => ∃ i, i + m = n ∧ FrOk f [(0, .slice A n c), (3, .pointer (some ⟨bx, 0, none⟩)), (7, .int .i64 (n : Int)), (8, .int .i64 (i : Int))] ∧ (∀ j y, j < i → xs[j]? = some y → decide (x = y) = false) ∧ l = (bx, isC 48 (enc2 x)) :: r) n ?_ ?_
 ·exact ⟨0, by omega, ⟨rfl, rfl, rfl, rfl, trivial⟩, fun j y h => absurd h (Nat.not_lt_zero _), rfl⟩
 rintro m f l ⟨i, hmi, hf, hno, rfl⟩
 refine JC.frame _ hf fun f' => ?_
 by_cases hi : i < n
 ·have hi' : i < xs.length := by omega
  obtain ⟨b, o, rfl, S', hS, hc⟩ := hs.look (by rw [row_len enc2 enc2_len]; omega)
  have hy := List.getElem?_eq_getElem hi'
  have hce := look_elem enc2 enc2_len hc hy
  refine AU0 ?_
  refine JC.drawn 6 rfl mixed ?_
  refine JDr 0 0 rfl rfl (r_loadW rfl rfl) ?_
  refine JDp 1 rfl y_mv ?_
  refine JDp 2 rfl y_mv ?_
  refine JDp 3 rfl (y_index rfl rfl (by omega)) ?_
  refine JD.readS 4 S' r rfl (by kernel_rfl) (by kernel_rfl) rfl hS (fun e he => List.mem_cons_of_mem _ he) (y_loadIfA (cs := enc2 (xs[i]'hi')) rfl hce) ?_
  by_cases hx : x = xs[i]'hi'
  ·have hd : decide (x = xs[i]'hi') = true := decide_eq_true hx
   refine JDp 5 rfl (y_eqlAns (r := true) rfl rfl (hd ▸ eq_princ x (xs[i]'hi')) (by decide)) ?_
   refine JDd ?_
   refine AU0 ?_
   refine JC.sub (List.sublist_cons_self _ _) (JC.ret (RT.one rfl rfl (by conv => lhs; whnf) ⟨?_, rfl⟩))
   rw [idxF_at _ xs 0 i _ hy hd hno, Nat.zero_add]
  ·have hd : decide (x = xs[i]'hi') = false := decide_eq_false hx
   refine JDp 5 rfl (y_eqlAns (r := false) rfl rfl (hd ▸ eq_princ x (xs[i]'hi')) (by decide)) ?_
   refine JDd ?_
   refine AU0 ?_
   refine RN.loop (m' := m - 1) (by omega) ⟨i + 1, by omega, ⟨rfl, rfl, rfl, rfl, trivial⟩, fun j y hj hjy => ?_, rfl⟩
   by_cases hji : j = i
   ·subst hji
    rw [hy] at hjy
    cases hjy
    exact hd
   ·exact hno j y (by omega) hjy
 ·obtain rfl : n = i := by omega
  refine AU0 ?_
  refine JC.sub (List.sublist_cons_self _ _) (JC.ret (RT.one rfl rfl (by conv => lhs; whnf) ⟨?_, rfl⟩))
  rw [idxF_none _ xs 0 fun j y hy => hno j y (by have := (List.getElem?_eq_some_iff.1 hy).1; omega) hy]
theorem ContainsP_ok {A : Option Addr} {n c : Nat} {xs : List P2} (x : P2) {W : World} {r : List Ent} (hn : xs.length = n) (hm : n ≤ 1000000) (hs : Src W r A (xs.flatMap enc2)) :
  Tr Pg 71 #[.slice A n c, pv x] W r fun v l' => v = .bool (decide (x ∈ xs)) ∧ l' = r := by
 refine Tr.of_code (args := [_, _]) Tryz.func71 rfl Tryz.ntmps71 lE_ ?_
 refine AU0 ?_
 refine JLs (e_box (cs := enc2 x) rfl rfl fun bx => ?_)
 refine AU0 ?_
 refine JL.read 0 rfl rfl (r_loadW rfl rfl) ?_
 refine JLs (e_call rfl rfl (IndexP_ok x hn hm (hs.mono fun e he => List.mem_cons_of_mem _ he)) ?_)
 rintro v l' ⟨rfl, rfl⟩
 have hx : decide (0 ≤ idxF (fun y => decide (x = y)) xs 0) = decide (x ∈ xs) := by
  rw [idxF_nonneg, Bool.eq_iff_iff, List.any_eq_true, decide_eq_true_eq]
  exact ⟨fun ⟨y, hy, h⟩ => (of_decide_eq_true h) ▸ hy, fun h => ⟨x, h, decide_eq_true rfl⟩⟩
 repeat (first | refine JLp (y_geq rfl rfl hx) ?_ | refine AS0 ?_)
 exact JC.sub (List.sublist_cons_self _ _) (JC.ret (RT.one rfl rfl (by conv => lhs; whnf) ⟨rfl, rfl⟩))
set_option maxHeartbeats 1000000 in
theorem IndexL_ok {A : Option Addr} {n c : Nat} {xs : List P2} (x : P2) {W : World} {r : List Ent} (hn : xs.length = n) (hm : n ≤ 1000000) (hs : Src W r A (xs.flatMap enc2)) :
  Tr Pg 138 #[.slice A n c, pv x] W r fun v l' => v = .int .i64 (idxF (fun y => decide (x = y)) xs 0) ∧ l' = r := by
 refine Tr.of_code (args := [_, _]) Tryz.func138 rfl Tryz.ntmps138 lE_ ?_
 refine AU0 ?_
 refine JLs (e_box (cs := enc2 x) rfl rfl fun bx => ?_)
 refine AU0 ?_
 refine JC.loop (fun m f l => ∃ i, i + m = n ∧ FrOk f [(0, .slice A n c), (3, .pointer (some ⟨bx, 0, none⟩)), (7, .int .i64 (n : Int)), (8, .int .i64 (i : Int))] ∧ (∀ j y, j < i → xs[j]? = some y → decide (x = y) = false) ∧ l = (bx, isC 44 (enc2 x)) :: r) n ?_ ?_
 ·exact ⟨0, by omega, ⟨rfl, rfl, rfl, rfl, trivial⟩, fun j y h => absurd h (Nat.not_lt_zero _), rfl⟩
 rintro m f l ⟨i, hmi, hf, hno, rfl⟩
 refine JC.frame _ hf fun f' => ?_
 by_cases hi : i < n
 ·have hi' : i < xs.length := by omega
  obtain ⟨b, o, rfl, S', hS, hc⟩ := hs.look (by rw [row_len enc2 enc2_len]; omega)
  have hy := List.getElem?_eq_getElem hi'
  have hce := look_elem enc2 enc2_len hc hy
  refine AU0 ?_
  refine JC.drawn 6 rfl mixed ?_
  refine JDr 0 0 rfl rfl (r_loadW rfl rfl) ?_
  refine JDp 1 rfl y_mv ?_
  refine JDp 2 rfl y_mv ?_
  refine JDp 3 rfl (y_index rfl rfl (by omega)) ?_
  refine JD.readS 4 S' r rfl (by kernel_rfl) (by kernel_rfl) rfl hS (fun e he => List.mem_cons_of_mem _ he) (y_loadIfA (cs := enc2 (xs[i]'hi')) rfl hce) ?_
  by_cases hx : x = xs[i]'hi'
  ·have hd : decide (x = xs[i]'hi') = true := decide_eq_true hx
   refine JDp 5 rfl (y_eqlAns (r := true) rfl rfl (hd ▸ eq_link x (xs[i]'hi')) (by decide)) ?_
   refine JDd ?_
   refine AU0 ?_
   refine JC.sub (List.sublist_cons_self _ _) (JC.ret (RT.one rfl rfl (by conv => lhs; whnf) ⟨?_, rfl⟩))
   rw [idxF_at _ xs 0 i _ hy hd hno, Nat.zero_add]
  ·have hd : decide (x = xs[i]'hi') = false := decide_eq_false hx
   refine JDp 5 rfl (y_eqlAns (r := false) rfl rfl (hd ▸ eq_link x (xs[i]'hi')) (by decide)) ?_
   refine JDd ?_
   refine AU0 ?_
   refine RN.loop (m' := m - 1) (by omega) ⟨i + 1, by omega, ⟨rfl, rfl, rfl, rfl, trivial⟩, fun j y hj hjy => ?_, rfl⟩
   by_cases hji : j = i
   ·subst hji
    rw [hy] at hjy
    cases hjy
    exact hd
   ·exact hno j y (by omega) hjy
 ·obtain rfl : n = i := by omega
  refine AU0 ?_
  refine JC.sub (List.sublist_cons_self _ _) (JC.ret (RT.one rfl rfl (by conv => lhs; whnf) ⟨?_, rfl⟩))
  rw [idxF_none _ xs 0 fun j y hy => hno j y (by have := (List.getElem?_eq_some_iff.1 hy).1; omega) hy]
theorem ContainsL_ok {A : Option Addr} {n c : Nat} {xs : List P2} (x : P2) {W : World} {r : List Ent} (hn : xs.length = n) (hm : n ≤ 1000000) (hs : Src W r A (xs.flatMap enc2)) :
  Tr Pg 103 #[.slice A n c, pv x] W r fun v l' => v = .bool (decide (x ∈ xs)) ∧ l' = r := by
 refine Tr.of_code (args := [_, _]) Tryz.func103 rfl Tryz.ntmps103 lE_ ?_
 refine AU0 ?_
 refine JLs (e_box (cs := enc2 x) rfl rfl fun bx => ?_)
 refine AU0 ?_
 refine JL.read 0 rfl rfl (r_loadW rfl rfl) ?_
 refine JLs (e_call rfl rfl (IndexL_ok x hn hm (hs.mono fun e he => List.mem_cons_of_mem _ he)) ?_)
 rintro v l' ⟨rfl, rfl⟩
 have hx : decide (0 ≤ idxF (fun y => decide (x = y)) xs 0) = decide (x ∈ xs) := by
  rw [idxF_nonneg, Bool.eq_iff_iff, List.any_eq_true, decide_eq_true_eq]
  exact ⟨fun ⟨y, hy, h⟩ => (of_decide_eq_true h) ▸ hy, fun h => ⟨x, h, decide_eq_true rfl⟩⟩
 repeat (first | refine JLp (y_geq rfl rfl hx) ?_ | refine AS0 ?_)
 exact JC.sub (List.sublist_cons_self _ _) (JC.ret (RT.one rfl rfl (by conv => lhs; whnf) ⟨rfl, rfl⟩))
def enc1 (s : S) : List Value := [sv s]
theorem enc1_len (s : S) : (enc1 s).length = 1 := rfl
theorem flat1 (xs : List S) : xs.flatMap enc1 = xs.map sv := by
 induction xs with
 | nil => rfl
 | cons x xs ih => rw [List.flatMap_cons, ih]; rfl
theorem IndexS_ok {A : Option Addr} {n c : Nat} {xs : List S} (x : S) {W : World} {r : List Ent} (hn : xs.length = n) (hm : n ≤ 1000000) (hs : Src W r A (xs.map sv)) :
  Tr Pg 81 #[.slice A n c, .string (ba x)] W r fun v l' => v = .int .i64 (idxF (fun y => decide (y = x)) xs 0) ∧ l' = r := by
 refine Tr.of_code (args := [_, _]) Tryz.func81 rfl Tryz.ntmps81 lE_ ?_
 refine AU0 ?_
 refine JC.loop (fun m f l => ∃ i, i + m = n ∧ FrOk f [(0, .slice A n c), (1, .string (ba x)), (7, .int .i64 (n : Int)), (8, .int .i64 (i : Int))] ∧ (∀ j y, j < i → xs[j]? = some y → decide (y = x) = false) ∧ l = r) n ?_ ?_
 ·exact ⟨0, by omega, ⟨rfl, rfl, rfl, rfl, trivial⟩, fun j y h => absurd h (Nat.not_lt_zero _), rfl⟩
 rintro m f l ⟨i, hmi, hf, hno, rfl⟩
 refine JC.frame _ hf fun f' => ?_
 by_cases hi : i < n
 ·have hi' : i < xs.length := by omega
  obtain ⟨b, o, rfl, hc⟩ := hs.at_ (by simp; omega)
  have hy := List.getElem?_eq_getElem hi'
  refine AU0 ?_
  refine JLs (e_loadS (u := sv (xs[i]'hi')) rfl (fun w hw => by rw [Nat.mul_one]; exact hc l (fun _ h => h) w hw i _ (by simp [hy])) ?_)
  have he := eqSS x (xs[i]'hi')
  by_cases hx : xs[i]'hi' = x
  ·have hd : decide (xs[i]'hi' = x) = true := decide_eq_true hx
   rw [decide_eq_true hx.symm] at he
   repeat (first | refine JLp (y_eqlS rfl rfl he) ?_ | refine AS0 ?_)
   refine JC.ret (RT.one rfl rfl (by conv => lhs; whnf) ⟨?_, rfl⟩)
   rw [idxF_at _ xs 0 i _ hy hd hno, Nat.zero_add]
  ·have hd : decide (xs[i]'hi' = x) = false := decide_eq_false hx
   rw [decide_eq_false (fun h => hx h.symm)] at he
   repeat (first | refine JLp (y_eqlS rfl rfl he) ?_ | refine AS0 ?_)
   refine RN.loop (m' := m - 1) (by omega) ⟨i + 1, by omega, ⟨rfl, rfl, rfl, rfl, trivial⟩, fun j y hj hjy => ?_, rfl⟩
   by_cases hji : j = i
   ·subst hji
    rw [hy] at hjy
    cases hjy
    exact hd
   ·exact hno j y (by omega) hjy
 ·obtain rfl : n = i := by omega
  refine AU0 ?_
  refine JC.ret (RT.one rfl rfl (by conv => lhs; whnf) ⟨?_, rfl⟩)
  rw [idxF_none _ xs 0 fun j y hy => hno j y (by have := (List.getElem?_eq_some_iff.1 hy).1; omega) hy]
theorem ContainsS_ok {A : Option Addr} {n c : Nat} {xs : List S} (x : S) {W : World} {r : List Ent} (hn : xs.length = n) (hm : n ≤ 1000000) (hs : Src W r A (xs.map sv)) :
  Tr Pg 65 #[.slice A n c, .string (ba x)] W r fun v l' => v = .bool (decide (x ∈ xs)) ∧ l' = r := by
 refine Tr.of_code (args := [_, _]) Tryz.func65 rfl Tryz.ntmps65 lE_ ?_
 refine AU0 ?_
 refine JLs (e_call rfl rfl (IndexS_ok x hn hm hs) ?_)
 rintro v l' ⟨rfl, rfl⟩
 have hx : decide (0 ≤ idxF (fun y => decide (y = x)) xs 0) = decide (x ∈ xs) := by
  rw [idxF_nonneg, Bool.eq_iff_iff, List.any_eq_true, decide_eq_true_eq]
  exact ⟨fun ⟨y, hy, h⟩ => (of_decide_eq_true h) ▸ hy, fun h => ⟨x, h, decide_eq_true rfl⟩⟩
 repeat (first | refine JLp (y_geq rfl rfl hx) ?_ | refine AS0 ?_)
 exact JC.ret (RT.one rfl rfl (by conv => lhs; whnf) ⟨rfl, rfl⟩)
theorem IndexFuncS_ok {g : FuncId} {cap : Array Value} {A : Option Addr} {n c : Nat} {xs : List S} (p : S → Bool) {W : World} {r : List Ent} (hg : FnT Pg g) (hn : xs.length = n) (hm : n ≤ 1000000) (hs : Src W r A (xs.flatMap enc1))
  (hp : ∀ x ∈ xs, Tr Pg g (sv x :: cap.toList).toArray W r fun v l' => v = .bool (p x) ∧ l' = r) :
  Tr Pg 106 #[.slice A n c, .func (.func g) #[] cap] W r fun v l' => v = .int .i64 (idxF p xs 0) ∧ l' = r := by
 refine Tr.of_code (args := [_, _]) Tryz.func106 rfl Tryz.ntmps106 lE_ ?_
 refine AU0 ?_
 refine JC.loop (fun m f l => ∃ i, i + m = n ∧ FrOk f [(0, .slice A n c), (1, .func (.func g) #[] cap), (7, .int .i64 (n : Int)), (8, .int .i64 (i : Int))] ∧ (∀ j y, j < i → xs[j]? = some y → p y = false) ∧ l = r) n ?_ ?_
 ·exact ⟨0, by omega, ⟨rfl, rfl, rfl, rfl, trivial⟩, fun j y h => absurd h (Nat.not_lt_zero _), rfl⟩
 rintro m f l ⟨i, hmi, hf, hno, rfl⟩
 refine JC.frame _ hf fun f' => ?_
 by_cases hi : i < n
 ·have hi' : i < xs.length := by omega
  obtain ⟨b, o, rfl, hc⟩ := hs.at_ (by rw [row_len enc1 enc1_len]; omega)
  have hy := List.getElem?_eq_getElem hi'
  refine AU0 ?_
  refine JLs (e_loadS (u := sv (xs[i]'hi')) rfl (fun w hw => by have := Src.elem enc1 enc1_len hc (fun _ h => h) hy w hw 0 _ rfl; simpa using this) ?_)
  refine JLs (e_call rfl rfl (hp _ (List.getElem_mem hi')) ?_)
  rintro v l' ⟨rfl, rfl⟩
  by_cases hx : p (xs[i]'hi') = true
  ·rw [hx]
   refine AU0 ?_
   refine JC.ret (RT.one rfl rfl (by conv => lhs; whnf) ⟨?_, rfl⟩)
   rw [idxF_at _ xs 0 i _ hy hx hno, Nat.zero_add]
  ·rw [Bool.eq_false_iff.2 hx]
   refine AU0 ?_
   refine RN.loop (m' := m - 1) (by omega) ⟨i + 1, by omega, ⟨rfl, rfl, rfl, rfl, trivial⟩, fun j y hj hjy => ?_, rfl⟩
   by_cases hji : j = i
   ·subst hji
    rw [hy] at hjy
    cases hjy
    exact Bool.eq_false_iff.2 hx
   ·exact hno j y (by omega) hjy
 ·obtain rfl : n = i := by omega
  refine AU0 ?_
  refine JC.ret (RT.one rfl rfl (by conv => lhs; whnf) ⟨?_, rfl⟩)
  rw [idxF_none _ xs 0 fun j y hy => hno j y (by have := (List.getElem?_eq_some_iff.1 hy).1; omega) hy]
theorem ContainsFuncS_ok {g : FuncId} {cap : Array Value} {A : Option Addr} {n c : Nat} {xs : List S} (p : S → Bool) {W : World} {r : List Ent} (hg : FnT Pg g) (hn : xs.length = n) (hm : n ≤ 1000000) (hs : Src W r A (xs.flatMap enc1))
  (hp : ∀ x ∈ xs, Tr Pg g (sv x :: cap.toList).toArray W r fun v l' => v = .bool (p x) ∧ l' = r) :
  Tr Pg 67 #[.slice A n c, .func (.func g) #[] cap] W r fun v l' => v = .bool (xs.any p) ∧ l' = r := by
 refine Tr.of_code (args := [_, _]) Tryz.func67 rfl Tryz.ntmps67 lE_ ?_
 refine AU0 ?_
 refine JLs (e_call rfl rfl (IndexFuncS_ok p hg hn hm hs hp) ?_)
 rintro v l' ⟨rfl, rfl⟩
 repeat (first | refine JLp (y_geq rfl rfl (idxF_nonneg p xs 0)) ?_ | refine AS0 ?_)
 exact JC.ret (RT.one rfl rfl (by conv => lhs; whnf) ⟨rfl, rfl⟩)
theorem IndexFuncL_ok {g : FuncId} {cap : Array Value} {A : Option Addr} {n c : Nat} {xs : List P2} (p : P2 → Bool) {W : World} {r : List Ent} (hg : FnT Pg g) (hn : xs.length = n) (hm : n ≤ 1000000) (hs : Src W r A (xs.flatMap enc2))
  (hp : ∀ x ∈ xs, Tr Pg g (pv x :: cap.toList).toArray W r fun v l' => v = .bool (p x) ∧ l' = r) :
  Tr Pg 105 #[.slice A n c, .func (.func g) #[] cap] W r fun v l' => v = .int .i64 (idxF p xs 0) ∧ l' = r := by
 refine Tr.of_code (args := [_, _]) Tryz.func105 rfl Tryz.ntmps105 lE_ ?_
 refine AU0 ?_
 refine JC.loop (fun m f l => ∃ i, i + m = n ∧ FrOk f [(0, .slice A n c), (1, .func (.func g) #[] cap), (7, .int .i64 (n : Int)), (8, .int .i64 (i : Int))] ∧ (∀ j y, j < i → xs[j]? = some y → p y = false) ∧ l = r) n ?_ ?_
 ·exact ⟨0, by omega, ⟨rfl, rfl, rfl, rfl, trivial⟩, fun j y h => absurd h (Nat.not_lt_zero _), rfl⟩
 rintro m f l ⟨i, hmi, hf, hno, rfl⟩
 refine JC.frame _ hf fun f' => ?_
 by_cases hi : i < n
 ·have hi' : i < xs.length := by omega
  obtain ⟨b, o, rfl, hc⟩ := hs.at_ (by rw [row_len enc2 enc2_len]; omega)
  have hy := List.getElem?_eq_getElem hi'
  refine AU0 ?_
  refine JLs (e_loadSA (cs := enc2 (xs[i]'hi')) rfl (Src.elem enc2 enc2_len hc (fun _ h => h) hy) ?_)
  refine JLs (e_call rfl rfl (hp _ (List.getElem_mem hi')) ?_)
  rintro v l' ⟨rfl, rfl⟩
  by_cases hx : p (xs[i]'hi') = true
  ·rw [hx]
   refine AU0 ?_
   refine JC.ret (RT.one rfl rfl (by conv => lhs; whnf) ⟨?_, rfl⟩)
   rw [idxF_at _ xs 0 i _ hy hx hno, Nat.zero_add]
  ·rw [Bool.eq_false_iff.2 hx]
   refine AU0 ?_
   refine RN.loop (m' := m - 1) (by omega) ⟨i + 1, by omega, ⟨rfl, rfl, rfl, rfl, trivial⟩, fun j y hj hjy => ?_, rfl⟩
   by_cases hji : j = i
   ·subst hji
    rw [hy] at hjy
    cases hjy
    exact Bool.eq_false_iff.2 hx
   ·exact hno j y (by omega) hjy
 ·obtain rfl : n = i := by omega
  refine AU0 ?_
  refine JC.ret (RT.one rfl rfl (by conv => lhs; whnf) ⟨?_, rfl⟩)
  rw [idxF_none _ xs 0 fun j y hy => hno j y (by have := (List.getElem?_eq_some_iff.1 hy).1; omega) hy]
theorem ContainsFuncL_ok {g : FuncId} {cap : Array Value} {A : Option Addr} {n c : Nat} {xs : List P2} (p : P2 → Bool) {W : World} {r : List Ent} (hg : FnT Pg g) (hn : xs.length = n) (hm : n ≤ 1000000) (hs : Src W r A (xs.flatMap enc2))
  (hp : ∀ x ∈ xs, Tr Pg g (pv x :: cap.toList).toArray W r fun v l' => v = .bool (p x) ∧ l' = r) :
  Tr Pg 66 #[.slice A n c, .func (.func g) #[] cap] W r fun v l' => v = .bool (xs.any p) ∧ l' = r := by
 refine Tr.of_code (args := [_, _]) Tryz.func66 rfl Tryz.ntmps66 lE_ ?_
 refine AU0 ?_
 refine JLs (e_call rfl rfl (IndexFuncL_ok p hg hn hm hs hp) ?_)
 rintro v l' ⟨rfl, rfl⟩
 repeat (first | refine JLp (y_geq rfl rfl (idxF_nonneg p xs 0)) ?_ | refine AS0 ?_)
 exact JC.ret (RT.one rfl rfl (by conv => lhs; whnf) ⟨rfl, rfl⟩)
end Go.Proofs.YtbalcgjphkdecaaGreatDoor.To
namespace Go.Proofs.YtbalcgjphkdecaaGreatDoor.To
open Go.RowKit Go.Lg
set_option maxRecDepth 100000
attribute [local irreducible] JC JL JD RN RT Eff Yld YldIf Tr
def revP (bs : List S) (i : Nat) : List S := (List.range bs.length).map fun k => if k < i ∨ bs.length ≤ k + i then bs.getD (bs.length - 1 - k) [] else bs.getD k []
theorem revP_len (bs : List S) (i : Nat) : (revP bs i).length = bs.length := by simp [revP]
theorem revP_get (bs : List S) (i k : Nat) (h : k < bs.length) : (revP bs i)[k]? = some (if k < i ∨ bs.length ≤ k + i then bs.getD (bs.length - 1 - k) [] else bs.getD k []) := by
 unfold revP
 rw [List.getElem?_map, List.getElem?_range h]
 rfl
theorem revP_zero (bs : List S) : revP bs 0 = bs := by
 apply List.ext_getElem?
 intro k
 by_cases h : k < bs.length
 ·rw [revP_get bs 0 k h, if_neg (by omega), List.getElem?_eq_getElem h]
  simp [List.getD, List.getElem?_eq_getElem h]
 ·rw [List.getElem?_eq_none (by rw [revP_len]; omega), List.getElem?_eq_none (by omega)]
theorem revP_end (bs : List S) (i : Nat) (h : bs.length ≤ 2 * i + 1) : revP bs i = bs.reverse := by
 apply List.ext_getElem?
 intro k
 by_cases hk : k < bs.length
 ·rw [revP_get bs i k hk, List.getElem?_reverse hk, List.getElem?_eq_getElem (by omega)]
  congr 1
  by_cases h1 : k < i ∨ bs.length ≤ k + i
  ·rw [if_pos h1]
   simp [List.getD, List.getElem?_eq_getElem (show bs.length - 1 - k < bs.length by omega)]
  ·rw [if_neg h1]
   have : bs.length - 1 - k = k := by omega
   simp [List.getD, List.getElem?_eq_getElem hk, this]
 ·rw [List.getElem?_eq_none (by rw [revP_len]; omega), List.getElem?_eq_none (by simp; omega)]
theorem revP_step {bs : List S} {i : Nat} (h : i + 1 + i < bs.length) : ((revP bs i).set i (bs.getD (bs.length - 1 - i) [])).set (bs.length - 1 - i) (bs.getD i []) = revP bs (i + 1) := by
 apply List.ext_getElem?
 intro k
 by_cases hk : k < bs.length
 ·rw [revP_get bs (i + 1) k hk, List.getElem?_set, List.getElem?_set, revP_get bs i k hk]
  simp only [List.length_set, revP_len]
  by_cases h1 : bs.length - 1 - i = k
  ·rw [if_pos h1, if_pos (by omega), if_pos (by omega)]
   congr 2; omega
  ·rw [if_neg h1]
   by_cases h2 : i = k
   ·rw [if_pos h2, if_pos (by omega), if_pos (by omega), h2]
   ·rw [if_neg h2]
    congr 1
    by_cases h3 : k < i ∨ bs.length ≤ k + i
    ·rw [if_pos h3, if_pos (by omega)]
    ·rw [if_neg h3, if_neg (by omega)]
 ·rw [List.getElem?_eq_none (by rw [List.length_set, List.length_set, revP_len]; omega), List.getElem?_eq_none (by rw [revP_len]; omega)]
theorem set_sv (xs : List S) {j : Nat} (hj : j < xs.length) (x : S) : (xs.map sv).take (0 + j * 1) ++ (sv x).cells.toList ++ (xs.map sv).drop (0 + j * 1 + 1) = (xs.set j x).map sv := by
 rw [List.set_eq_take_append_cons_drop, if_pos hj, Nat.mul_one, Nat.zero_add]
 simp [List.map_take, List.map_drop, sv, Value.cells]
theorem sv_all (b : S) : (sv b).cells.all (·.oneCell') = true := by
 show (#[sv b] : Array Value).all (·.oneCell') = true
 simp
 rfl
theorem e_storeT {P : Program} {ρ : Operand → Value} {d : Option Tmp} {ty : TypeId} {pos : String} {af : Array Edge} {gd : Option (Nat × Bool)} {W : World} {l : List Ent} {Ψ : Value → List Ent → Prop} {t T : TypeId} {x y : Operand} {b j tot : Nat} {xs : List S} {u : S} (i : Nat) (he : l[i]? = some (b, isR T tot (xs.map sv))) [hs : Sz P t 1]
  (hx : ρ x = .pointer (some ⟨b, 0 + j * 1, none⟩)) (hy : ρ y = sv u) (hj : j < xs.length) (h : Ψ undef (l.set i (b, isR T tot ((xs.set j u).map sv)))) : Eff P W l ⟨d, .store t x y, ty, pos, af, gd⟩ ρ Ψ :=
 e_storeR (n := 1) i he hx hy rfl (sv_all _) (by rw [List.length_map]; omega) (by rw [set_sv xs hj]; exact h)
set_option maxHeartbeats 2000000 in
theorem Reverse_ok {g n cap tot : Nat} {bs : List S} {W : World} {r : List Ent} (hl : bs.length = n) (h0 : 0 < n) (hm : n ≤ 35184372088832) :
  Tr Pg 189 #[.slice (some ⟨g, 0, none⟩) n cap] W ((g, isR 9 tot (bs.map sv)) :: r) fun _ l' => l' = (g, isR 9 tot (bs.reverse.map sv)) :: r := by
 refine Tr.of_code (args := [_]) Tryz.func189 rfl Tryz.ntmps189 lE_ ?_
 refine AU0 ?_
 refine JC.loop (fun m f l => ∃ (i : Nat) (jj : Int), 2 * i ≤ n ∧ i + m = n ∧ jj = (n : Int) - 1 - i ∧ FrOk f [(0, .slice (some ⟨g, 0, none⟩) n cap), (2, .int .i64 (i : Int)), (3, .int .i64 jj)] ∧ l = (g, isR 9 tot ((revP bs i).map sv)) :: r) n ?_ ?_
 ·exact ⟨0, _, by omega, by omega, by omega, ⟨rfl, rfl, rfl, trivial⟩, by rw [revP_zero]⟩
 rintro m f l ⟨i, jj, hi, hm', hjj, hf, rfl⟩
 refine JC.frame _ hf fun f' => ?_
 by_cases hij : (i : Int) < jj
 ·obtain rfl : jj = ((n - 1 - i : Nat) : Int) := by omega
  have hgi : ((revP bs i).map sv)[0 + i * 1]? = some (sv (bs.getD i [])) := by
   rw [Nat.mul_one, Nat.zero_add, List.getElem?_map, revP_get bs i i (by omega), if_neg (by omega)]; rfl
  have hgj : ((revP bs i).map sv)[0 + (n - 1 - i) * 1]? = some (sv (bs.getD (n - 1 - i) [])) := by
   rw [Nat.mul_one, Nat.zero_add, List.getElem?_map, revP_get bs i (n - 1 - i) (by omega), if_neg (by omega)]; rfl
  have hrl := revP_len bs i
  refine AU0 ?_
  refine JC.drawn 16 rfl mixed ?_
  refine JDp 0 rfl y_mv ?_
  refine JDp 1 rfl y_mv ?_
  refine JDp 2 rfl y_mv ?_
  refine JDp 3 rfl y_mv ?_
  refine JDp 4 rfl y_mv ?_
  refine JDp 5 rfl y_mv ?_
  refine JDp 6 rfl (y_index rfl rfl (by omega)) ?_
  refine JDp 8 rfl y_mv ?_
  refine JDp 9 rfl y_mv ?_
  refine JDp 10 rfl (y_index rfl rfl (by omega)) ?_
  refine JDr 7 0 rfl rfl (r_loadR1 (v := sv (bs.getD (n - 1 - i) [])) rfl hgj) ?_
  refine JDr 11 0 rfl rfl (r_loadR1 (v := sv (bs.getD i [])) rfl hgi) ?_
  refine JDp 12 rfl (y_index rfl rfl (by omega)) ?_
  refine JDe 13 rfl (e_storeT (j := i) (u := bs.getD (n - 1 - i) []) 0 rfl rfl rfl (by omega) ⟨tok_, ?_⟩)
  refine JDp 14 rfl (y_index rfl rfl (by omega)) ?_
  refine JDe 15 rfl (e_storeT (j := n - 1 - i) (u := bs.getD i []) 0 rfl rfl rfl (by rw [List.length_set]; omega) ⟨tok_, ?_⟩)
  refine JDd ?_
  refine AU0 ?_
  refine RN.loop (m' := m - 1) (by omega) ⟨i + 1, _, by omega, by omega, ?_, ⟨rfl, rfl, rfl, trivial⟩, ?_⟩
  ·omega
  ·rw [← revP_step (by omega), hl]; rfl
 ·refine AU0 ?_
  rw [revP_end bs i (by omega)]
  exact RN.none rfl rfl
def upperS : S := [65, 66, 67, 68, 69, 70, 71, 72, 73, 74, 75, 76, 77, 78, 79, 80, 81, 82, 83, 84, 85, 86, 87, 88, 89, 90]
def smallS : S := [97, 98, 99, 100, 101, 102, 103, 104, 105, 106, 107, 108, 109, 110, 111, 112, 113, 114, 115, 116, 117, 118, 119, 120, 121, 122, 48, 49, 50, 51, 52, 53, 54, 55, 56, 57]
def grantS : S := [107, 114, 98, 116, 103, 116, 47]
def wordB (s cs : S) : Bool := decide (s ≠ []) && decide (s.length ≤ 8) && decide (Lib.trimS s cs = [])
theorem isWord_ok (s cs : S) (h : s.length ≤ 1000) (hc : cs.length < 4294967281) (ha : cs.all (fun b => decide (b.toNat < 128)) = true) {W : World} {r : List Ent} : Tr Pg 110 #[.string (ba s), .string (ba cs)] W r fun v l' => v = .bool (wordB s cs) ∧ l' = r := by
 refine Tr.of_code (args := [_, _]) Tryz.func110 rfl Tryz.ntmps110 lE_ ?_
 have hsz := ba_size s
 by_cases h0 : s = []
 ·subst h0
  have e0 : (!((ba []).toList == (ByteArray.mk #[]).toList)) = false := by rw [show (ByteArray.mk #[]) = ba [] from rfl, eqSS]; rfl
  repeat (first | refine JLp (y_neqS rfl rfl e0) ?_ | refine AS0 ?_)
  exact JC.ret (RT.one rfl rfl (by conv => lhs; whnf) ⟨by simp [wordB], rfl⟩)
 have e0 : (!((ba s).toList == (ByteArray.mk #[]).toList)) = true := by rw [show (ByteArray.mk #[]) = ba [] from rfl, eqSS, decide_eq_false h0]; rfl
 have hw0 : decide (s ≠ []) = true := decide_eq_true h0
 by_cases h1 : s.length ≤ 8
 ·have h1' : decide (((ba s).size : Int) ≤ 8) = true := decide_eq_true (by rw [hsz]; omega)
  repeat (first | refine JLp (y_neqS rfl rfl e0) ?_ | refine JLp (y_leq rfl rfl h1') ?_ | refine AS0 ?_)
  refine JLs (e_call rfl rfl (Trim_ok s cs (by unfold maxLen; omega) hc ha) ?_)
  rintro v l' ⟨rfl, rfl⟩
  have e2 : ((ba (Lib.trimS s cs)).toList == (ByteArray.mk #[]).toList) = decide (Lib.trimS s cs = []) := by rw [show (ByteArray.mk #[]) = ba [] from rfl, eqSS]
  repeat (first | refine JLp (y_eqlS rfl rfl e2) ?_ | refine AS0 ?_)
  refine JC.ret (RT.one rfl rfl (by conv => lhs; whnf) ⟨?_, rfl⟩)
  unfold wordB
  rw [hw0, decide_eq_true h1]
  rfl
 ·have h1' : decide (((ba s).size : Int) ≤ 8) = false := decide_eq_false (by rw [hsz]; omega)
  repeat (first | refine JLp (y_neqS rfl rfl e0) ?_ | refine JLp (y_leq rfl rfl h1') ?_ | refine AS0 ?_)
  refine JC.ret (RT.one rfl rfl (by conv => lhs; whnf) ⟨?_, rfl⟩)
  unfold wordB
  rw [decide_eq_false h1, Bool.and_false, Bool.false_and]
theorem bad_ok (s : S) (h : s.length ≤ 1000) {W : World} {r : List Ent} : Tr Pg 190 #[.string (ba s)] W r fun v l' => v = .bool (!wordB s upperS) ∧ l' = r := by
 refine Tr.of_code (args := [_]) Tryz.func190 rfl Tryz.ntmps190 lE_ ?_
 refine AU0 ?_
 refine JLs (e_call rfl rfl (isWord_ok s upperS h (by decide) (by decide)) ?_)
 rintro v l' ⟨rfl, rfl⟩
 refine AU0 ?_
 exact JC.ret (RT.one rfl rfl (by conv => lhs; whnf) ⟨rfl, rfl⟩)
def partsL (r : S) : List S := (splitL r 46).reverse
def okR (r : S) : Bool := decide ((partsL r).length ≤ 4) && !((partsL r).any fun s => !wordB s upperS)
theorem count_le (s : S) (c : UInt8) : Lib.countB (ba s) ⟨#[c]⟩ ≤ s.length + 1 := by
 have := Lib.countB_le ⟨#[c]⟩ (Nat.le_refl 1) s.length (ba s) (Nat.le_refl _)
 rw [ba_size] at this
 omega
theorem parts_len (r : S) (h : r.length ≤ 1000) : 0 < (partsL r).length ∧ (partsL r).length ≤ 1002 := by
 unfold partsL
 rw [List.length_reverse, splitL_len]
 have := count_le r 46
 omega
end Go.Proofs.YtbalcgjphkdecaaGreatDoor.To
namespace Go.Proofs.YtbalcgjphkdecaaGreatDoor.To
open Go.RowKit Go.Lg
set_option maxRecDepth 100000
attribute [local irreducible] JC JL JD RN RT Eff Yld YldIf Tr partsL okR splitL wordB
def fit (r : S) : Bool := decide (r.length ≤ 1000) && !(Lib.hasPrefix r [47]) && (partsL r).all fun s => decide (s.length ≤ 1000)
theorem fit_spec {r : S} (h : fit r = true) : r.length ≤ 1000 ∧ Lib.hasPrefix r [47] = false ∧ ∀ s ∈ partsL r, s.length ≤ 1000 := by
 simp only [fit, Bool.and_eq_true, decide_eq_true_eq, Bool.not_eq_true', List.all_eq_true] at h
 exact ⟨h.1.1, h.1.2, h.2⟩
theorem parts_rev (r : S) : (splitL r 46).reverse = partsL r := by unfold partsL; rfl
theorem parts_len' (r : S) : (splitL r 46).length = (partsL r).length := by unfold partsL; rw [List.length_reverse]
theorem okR_eq (r : S) : okR r = (decide ((partsL r).length ≤ 4) && !((partsL r).any fun s => !wordB s upperS)) := by unfold okR; rfl
theorem labels_ok {r : S} (hf : fit r = true) {W : World} {l : List Ent} : Tr Pg 139 #[.string (ba r)] W l fun v l' =>
  (okR r = true ∧ ∃ b n, v = .tuple #[.slice (some ⟨b, 0, none⟩) n n, .int .i64 1] ∧ n = (partsL r).length ∧ l' = (b, isR 9 (n * 1) ((partsL r).map sv)) :: l) ∨
  (okR r = false ∧ v = .tuple #[.slice none 0 0, .int .i64 0] ∧ l' = l) := by
 obtain ⟨h1, h2, h3⟩ := fit_spec hf
 have hpl := parts_len r h1
 refine Tr.of_code (args := [_]) Tryz.func139 rfl Tryz.ntmps139 lE_ ?_
 refine AU0 ?_
 refine JLs (e_call rfl rfl (Split_ok r 46 (by omega)) ?_)
 rintro v l' ⟨b, n, rfl, hn, rfl⟩
 rw [parts_len'] at hn
 refine AU0 ?_
 refine JLs (e_call rfl rfl (HasPrefix_ok r [47]) ?_)
 rintro v l' ⟨rfl, rfl⟩
 rw [h2]
 refine AU0 ?_
 refine JLs (e_call rfl rfl (Reverse_ok (bs := splitL r 46) (tot := n * 1) (by rw [parts_len']; exact hn.symm) (by omega) (by omega)) ?_)
 rintro v l' rfl
 rw [parts_rev]
 have hcf : Tr Pg 67 #[.slice (some ⟨b, 0, none⟩) n n, .func (.func 190) #[] #[]] W ((b, isR 9 (n * 1) ((partsL r).map sv)) :: l) fun v l' => v = .bool ((partsL r).any fun s => !wordB s upperS) ∧ l' = (b, isR 9 (n * 1) ((partsL r).map sv)) :: l :=
  ContainsFuncS_ok (cap := #[]) _ inferInstance hn.symm (by omega) (by rw [flat1]; exact Src.whole (List.mem_cons_self ..)) (fun x hx => bad_ok x (h3 x hx))
 by_cases h4 : n ≤ 4
 ·refine AU0 ?_
  refine JLs (e_call rfl rfl hcf ?_)
  rintro v l' ⟨rfl, rfl⟩
  cases ha : (partsL r).any fun s => !wordB s upperS with
  | true =>
   refine AU0 ?_
   refine JC.sub (List.sublist_cons_self _ _) (JC.ret (RT.two rfl rfl (by conv => lhs; whnf) (by conv => lhs; whnf) (.inr ⟨?_, rfl, rfl⟩)))
   rw [okR_eq, ha, Bool.not_true, Bool.and_false]
  | false =>
   refine AU0 ?_
   refine JC.ret (RT.two rfl rfl (by conv => lhs; whnf) (by conv => lhs; whnf) (.inl ⟨?_, b, n, rfl, hn, rfl⟩))
   rw [okR_eq, ha, decide_eq_true (by omega)]
   rfl
 ·refine AU0 ?_
  refine JC.sub (List.sublist_cons_self _ _) (JC.ret (RT.two rfl rfl (by conv => lhs; whnf) (by conv => lhs; whnf) (.inr ⟨?_, rfl, rfl⟩)))
  rw [okR_eq, decide_eq_false (by omega), Bool.false_and]
theorem Kind_ok {r : S} (hf : fit r = true) {W : World} {l : List Ent} : Tr Pg 107 #[.string (ba r)] W l fun v l' => v = .int .i64 (bif okR r then 1 else 0) ∧ l' = l := by
 refine Tr.of_code (args := [_]) Tryz.func107 rfl Tryz.ntmps107 lE_ ?_
 refine AU0 ?_
 refine JLs (e_call rfl rfl (labels_ok hf) ?_)
 rintro v l' (⟨ho, b, n, rfl, hn, rfl⟩ | ⟨ho, rfl, rfl⟩)
 ·refine AU0 ?_
  exact JC.sub (List.sublist_cons_self _ _) (JC.ret (RT.one rfl rfl (by conv => lhs; whnf) ⟨by rw [ho]; rfl, rfl⟩))
 ·refine AU0 ?_
  exact JC.ret (RT.one rfl rfl (by conv => lhs; whnf) ⟨by rw [ho]; rfl, rfl⟩)
theorem Is_ok {r : S} (hf : fit r = true) {W : World} {l : List Ent} : Tr Pg 69 #[.string (ba r)] W l fun v l' => v = .bool (okR r) ∧ l' = l := by
 refine Tr.of_code (args := [_]) Tryz.func69 rfl Tryz.ntmps69 lE_ ?_
 refine AU0 ?_
 refine JLs (e_call rfl rfl (Kind_ok hf) ?_)
 rintro v l' ⟨rfl, rfl⟩
 cases okR r with
 | true =>
  simp only [cond_true]
  refine AU0 ?_
  exact JC.ret (RT.one rfl rfl (by conv => lhs; whnf) ⟨rfl, rfl⟩)
 | false =>
  simp only [cond_false]
  refine AU0 ?_
  exact JC.ret (RT.one rfl rfl (by conv => lhs; whnf) ⟨rfl, rfl⟩)
theorem Krbtgt_ok {r : S} (h : r.length ≤ 1000) {W : World} {l : List Ent} : Tr Pg 39 #[.string (ba r)] W l fun v l' => v = .string (ba (grantS ++ r)) ∧ l' = l := by
 refine Tr.of_code (args := [_]) Tryz.func39 rfl Tryz.ntmps39 lE_ ?_
 repeat (first | refine JLp (y_cat (a := grantS) (b := r) rfl rfl (by show 7 + r.length ≤ _; omega)) ?_ | refine AS0 ?_)
 exact JC.ret (RT.one rfl rfl (by conv => lhs; whnf) ⟨rfl, rfl⟩)
def targetS (n : S) : Option S := if Lib.hasPrefix n grantS && okR (Lib.trimPrefix n grantS) then some (Lib.trimPrefix n grantS) else none
def fitN (n : S) : Bool := decide (n.length ≤ 1000) && (!(Lib.hasPrefix n grantS) || fit (Lib.trimPrefix n grantS))
theorem Target_ok {n : S} (hf : fitN n = true) {W : World} {l : List Ent} : Tr Pg 108 #[.string (ba n)] W l fun v l' =>
  v = .tuple #[.string (ba ((targetS n).getD [])), .bool (targetS n).isSome] ∧ l' = l := by
 simp only [fitN, Bool.and_eq_true, Bool.or_eq_true, Bool.not_eq_true', decide_eq_true_eq] at hf
 obtain ⟨h1, h2⟩ := hf
 refine Tr.of_code (args := [_]) Tryz.func108 rfl Tryz.ntmps108 lE_ ?_
 refine AU0 ?_
 refine JLs (e_call rfl rfl (CutPrefix_ok n grantS) ?_)
 rintro v l' ⟨rfl, rfl⟩
 cases hp : Lib.hasPrefix n grantS with
 | false =>
  have ht : targetS n = none := by unfold targetS; rw [hp]; rfl
  rw [ht]
  refine AU0 ?_
  exact JC.ret (RT.two rfl rfl rfl rfl ⟨rfl, rfl⟩)
 | true =>
  have h2' : fit (Lib.trimPrefix n grantS) = true := by
   rcases h2 with h2 | h2
   ·rw [hp] at h2; cases h2
   ·exact h2
  refine AU0 ?_
  refine JLs (e_call rfl rfl (Is_ok h2') ?_)
  rintro v l' ⟨rfl, rfl⟩
  cases ho : okR (Lib.trimPrefix n grantS) with
  | false =>
   have ht : targetS n = none := by unfold targetS; rw [hp, ho]; rfl
   rw [ht]
   refine AU0 ?_
   exact JC.ret (RT.two rfl rfl rfl rfl ⟨rfl, rfl⟩)
  | true =>
   have ht : targetS n = some (Lib.trimPrefix n grantS) := by unfold targetS; rw [hp, ho]; rfl
   rw [ht]
   refine AU0 ?_
   exact JC.ret (RT.two rfl rfl rfl rfl ⟨rfl, rfl⟩)
def fitP (p : P2) : Bool := fit p.1 && fitN p.2
def isPr (p : P2) : Bool := okR p.1 && ((targetS p.2).isSome || wordB p.2 smallS)
theorem IsPrinc_ok {p : P2} (hf : fitP p = true) {W : World} {l : List Ent} : Tr Pg 75 #[pv p] W l fun v l' => v = .bool (isPr p) ∧ l' = l := by
 simp only [fitP, Bool.and_eq_true] at hf
 have hn : p.2.length ≤ 1000 := by
  have := hf.2
  simp only [fitN, Bool.and_eq_true, decide_eq_true_eq] at this
  exact this.1
 refine Tr.of_code (args := [_]) Tryz.func75 rfl Tryz.ntmps75 lE_ ?_
 refine AU0 ?_
 refine JLs (e_box (cs := enc2 p) rfl rfl fun bx => ?_)
 refine AU1 ?_
 refine JLs (e_call rfl rfl (Target_ok hf.2) ?_)
 rintro v l' ⟨rfl, rfl⟩
 refine AU1 ?_
 refine JLs (e_call rfl rfl (Is_ok hf.1) ?_)
 rintro v l' ⟨rfl, rfl⟩
 cases h1 : okR p.1 with
 | false =>
  refine AU1 ?_
  exact JC.sub (List.sublist_cons_self _ _) (JC.ret (RT.one rfl rfl (by conv => lhs; whnf) ⟨by unfold isPr; rw [h1]; rfl, rfl⟩))
 | true =>
  cases h2 : (targetS p.2).isSome with
  | true =>
   refine AU1 ?_
   exact JC.sub (List.sublist_cons_self _ _) (JC.ret (RT.one rfl rfl (by conv => lhs; whnf) ⟨by unfold isPr; rw [h1, h2]; rfl, rfl⟩))
  | false =>
   refine AU1 ?_
   refine JLs (e_call rfl rfl (isWord_ok p.2 smallS hn (by decide) (by decide)) ?_)
   rintro v l' ⟨rfl, rfl⟩
   refine AU1 ?_
   exact JC.sub (List.sublist_cons_self _ _) (JC.ret (RT.one rfl rfl (by conv => lhs; whnf) ⟨by unfold isPr; rw [h1, h2]; rfl, rfl⟩))
end Go.Proofs.YtbalcgjphkdecaaGreatDoor.To
namespace Go.Proofs.YtbalcgjphkdecaaGreatDoor.To
open Go.RowKit Go.Lg
set_option maxRecDepth 100000
attribute [local irreducible] JC JL JD RN RT Eff Yld YldIf Tr partsL okR splitL wordB
def joinD (ls : List S) : S := Lib.join ls.reverse [46]
attribute [local irreducible] joinD
theorem own_some {e : TypeId} {sz : Nat} {v : Value} {n : Nat} {xs : List Value} {le : List Ent} (h : Lg.Own e sz v n xs le) (h0 : 0 < n) : ∃ g cap, v = .slice (some ⟨g, 0, none⟩) n cap ∧ n ≤ cap ∧ cap ≤ maxLen ∧ le = [(g, isR e (cap * sz) xs)] := by
 rcases h.2 with ⟨_, h1, _⟩ | h1
 ·omega
 ·exact h1
theorem joinD_eq (ls : List S) : Lib.join ls.reverse [46] = joinD ls := by unfold joinD; rfl
set_option maxHeartbeats 1000000 in
theorem realm_ok {A : Option Addr} {n c : Nat} {ls : List S} {W : World} {r : List Ent} (hn : ls.length = n) (h0 : 0 < n) (hm : n ≤ 1002) (hj : (joinD ls).length ≤ 1000) (hs : Src W r A (ls.map sv)) :
  Tr Pg 270 #[.slice A n c, .int .i64 1] W r fun v l' => v = .string (ba (joinD ls)) ∧ l' = r := by
 have hA : A = none → n = 0 ∧ c = 0 := fun h => by
  obtain ⟨b, o, h', _⟩ := hs.at_ (by simp; omega)
  rw [h] at h'
  cases h'
 refine Tr.of_code (args := [_, _]) Tryz.func270 rfl Tryz.ntmps270 lE_ ?_
 refine AU0 ?_
 refine JLs (e_call rfl rfl (CloneS_ok (xs := ls.map sv) (by simp [hn]) (by omega) (sv_one _) hs hA) ?_)
 rintro v l' ⟨le, ho, rfl⟩
 obtain ⟨g, cap, rfl, hc1, hc2, rfl⟩ := own_some ho h0
 have hn0 : decide ((n : Int) = 0) = false := decide_eq_false (by omega)
 repeat (first | refine JLp (y_eql rfl rfl hn0) ?_ | refine AS0 ?_)
 refine JLs (e_call rfl rfl (Reverse_ok (bs := ls) (tot := cap * 1) hn h0 (by omega)) ?_)
 rintro v l' rfl
 refine AU0 ?_
 refine JLs (e_call rfl rfl (Join_ok [46] (xs := ls.reverse) (by simp [hn]) hc1 (by omega) (by rw [joinD_eq]; omega) (Src.whole (T := 9) (tot := cap * 1) (List.mem_cons_self ..))) ?_)
 rintro v l' ⟨rfl, rfl⟩
 rw [joinD_eq]
 refine AU0 ?_
 exact JC.sub (List.sublist_cons_self _ _) (JC.ret (RT.one rfl rfl (by conv => lhs; whnf) ⟨rfl, rfl⟩))
theorem DeleteFunc_none {g : FuncId} {cap : Array Value} {A : Option Addr} {n c : Nat} {xs : List S} (p : S → Bool) {W : World} {r : List Ent} (hg : FnT Pg g) (hn : xs.length = n) (hm : n ≤ 1000000) (hs : Src W r A (xs.map sv))
  (hp : ∀ x ∈ xs, Tr Pg g (sv x :: cap.toList).toArray W r fun v l' => v = .bool (p x) ∧ l' = r) (hno : ∀ x ∈ xs, p x = false) :
  Tr Pg 271 #[.slice A n c, .func (.func g) #[] cap] W r fun v l' => v = .slice A n c ∧ l' = r := by
 refine Tr.of_code (args := [_, _]) Tryz.func271 rfl Tryz.ntmps271 lE_ ?_
 refine AU0 ?_
 refine JLs (e_call rfl rfl (IndexFuncS_ok p hg hn hm (by rw [flat1]; exact hs) hp) ?_)
 rintro v l' ⟨rfl, rfl⟩
 rw [idxF_none p xs 0 fun j y hy => hno y (List.mem_of_getElem? hy)]
 refine AU0 ?_
 exact JC.ret (RT.one rfl rfl (by conv => lhs; whnf) ⟨rfl, rfl⟩)
theorem DeleteFunc_one {g : FuncId} {cap : Array Value} {b c tot : Nat} {x : S} (p : S → Bool) {W : World} {r : List Ent} (hg : FnT Pg g) (hc : 1 ≤ c)
  (hp : Tr Pg g (sv x :: cap.toList).toArray W ((b, isR 9 tot [sv x]) :: r) fun v l' => v = .bool (p x) ∧ l' = (b, isR 9 tot [sv x]) :: r) (hx : p x = true) :
  Tr Pg 271 #[.slice (some ⟨b, 0, none⟩) 1 c, .func (.func g) #[] cap] W ((b, isR 9 tot [sv x]) :: r) fun v l' => v = .slice (some ⟨b, 0, none⟩) 0 c ∧ l' = (b, isR 9 tot []) :: r := by
 refine Tr.of_code (args := [_, _]) Tryz.func271 rfl Tryz.ntmps271 lE_ ?_
 refine AU0 ?_
 refine JLs (e_call rfl rfl (IndexFuncS_ok (xs := [x]) p hg rfl (by decide) (Src.whole (T := 9) (tot := tot) (List.mem_cons_self ..)) (fun y hy => by cases List.mem_singleton.1 hy; exact hp)) ?_)
 rintro v l' ⟨rfl, rfl⟩
 rw [idxF_at p [x] 0 0 x rfl hx (fun j y h => absurd h (Nat.not_lt_zero _))]
 refine AU0 ?_
 refine JC.loop (fun m f l => FrOk f [(0, .slice (some ⟨b, 0, none⟩) 1 c), (5, .int .i64 ((0 : Nat) : Int)), (6, .int .i64 1)] ∧ l = (b, isR 9 tot [sv x]) :: r) 1 ⟨⟨rfl, rfl, rfl, trivial⟩, rfl⟩ ?_
 rintro m f l ⟨hf, rfl⟩
 refine JC.frame _ hf fun f' => ?_
 repeat (first | refine JLp (y_slice (l := 0) (h := 1) rfl ⟨_, rfl⟩ rfl (by omega) hc) ?_ | refine AS0 ?_)
 have e0 : (if c = 0 then some (⟨b, 0, none⟩ : Addr) else some ⟨b, 0 + 0 * 1, none⟩) = some ⟨b, 0, none⟩ := by split <;> rfl
 rw [e0]
 refine JLs (e_clear 0 rfl rfl rfl (by simp) (fun u hu => by cases List.mem_singleton.1 hu; rfl) ?_)
 repeat (first | refine JLp (y_slice (l := 0) (h := 0) rfl rfl ⟨_, rfl⟩ (by omega) (Nat.zero_le _)) ?_ | refine AS0 ?_)
 have e1 : (if c = 0 then some (⟨b, 0, none⟩ : Addr) else some ⟨b, 0 + 0 * 1, none⟩) = some ⟨b, 0, none⟩ := by split <;> rfl
 rw [e1]
 refine JC.weaken (l' := (b, isR 9 tot []) :: r) ?_ rfl ?_
 ·exact JC.ret (RT.one rfl rfl (by conv => lhs; whnf) ⟨by simp, rfl⟩)
 ·intro i b' q q' h1 h2 o ho
  cases i with
  | zero =>
   simp only [List.set_cons_zero, List.getElem?_cons_zero, Option.some.injEq, Prod.mk.injEq] at h1 h2
   obtain ⟨_, rfl⟩ := h1
   obtain ⟨_, rfl⟩ := h2
   exact isR_take rfl ho
  | succ i =>
   simp only [List.set_cons_zero, List.getElem?_cons_succ] at h1 h2
   rw [h1] at h2
   cases h2
   exact ho
theorem same_ok {b1 b2 : Nat} {a b s : S} {W : World} {l : List Ent} (i j : Nat) (h1 : l[i]? = some (b1, isC 9 [sv a])) (h2 : l[j]? = some (b2, isC 9 [sv b])) :
  Tr Pg 272 #[sv s, .pointer (some ⟨b1, 0, none⟩), .pointer (some ⟨b2, 0, none⟩)] W l fun v l' => v = .bool (decide (s = a) || decide (s = b)) ∧ l' = l := by
 refine Tr.of_code (args := [_, _, _]) Tryz.func272 rfl Tryz.ntmps272 lE_ ?_
 refine AU0 ?_
 refine JL.read i h1 rfl (r_load1 rfl rfl) ?_
 have e1 := eqSS s a
 have e2 := eqSS s b
 by_cases ha : s = a
 ·rw [decide_eq_true ha] at e1
  repeat (first | refine JLp (y_eqlS rfl rfl e1) ?_ | refine AS0 ?_)
  exact JC.ret (RT.one rfl rfl (by conv => lhs; whnf) ⟨by rw [decide_eq_true ha]; rfl, rfl⟩)
 ·rw [decide_eq_false ha] at e1
  repeat (first | refine JLp (y_eqlS rfl rfl e1) ?_ | refine AS0 ?_)
  refine JL.read j h2 rfl (r_load1 rfl rfl) ?_
  repeat (first | refine JLp (y_eqlS rfl rfl e2) ?_ | refine AS0 ?_)
  exact JC.ret (RT.one rfl rfl (by conv => lhs; whnf) ⟨by rw [decide_eq_false ha]; rfl, rfl⟩)
end Go.Proofs.YtbalcgjphkdecaaGreatDoor.To
namespace Go.Proofs.YtbalcgjphkdecaaGreatDoor.To
open Go.RowKit Go.Lg
set_option maxRecDepth 100000
theorem JC.cutb {P : Program} {n : Nat} {W : World} {K : Kont} {c : Code} {id : Nat} {f : Fr} {l : List Ent} (I : Fr → List Ent → Prop) (ht : ∀ f l, I f l → RN P n W K f l) (h : ∀ K', (∀ f l, I f l → RN P n W K' f l) → JC P n W c (.blk id K') f l) : JC P n W c (.blk id K) f l := h K ht
theorem JC.cut {P : Program} {n : Nat} {W : World} {K : Kont} {c : Code} {f : Fr} {l : List Ent} (I : Fr → List Ent → Prop) (ht : ∀ f l, I f l → RN P n W K f l) (h : ∀ K', (∀ f l, I f l → RN P n W K' f l) → JC P n W c K' f l) : JC P n W c K f l := h K ht
theorem RN.frame {P : Program} {n : Nat} {W : World} {K : Kont} {f : Fr} {l : List Ent} (hs : List (Nat × Value)) (h : FrOk f hs) (hJ : ∀ f', RN P n W K (puts f' hs) l) : RN P n W K f l := by
 rw [← puts_self f hs h]
 exact hJ f
attribute [local irreducible] JC JL JD RN RT Eff Yld YldIf Tr partsL okR splitL wordB joinD
def sameN : List S → List S → Nat
 | x :: xs, y :: ys => if x = y then sameN xs ys + 1 else 0
 | _, _ => 0
theorem sameN_eq : ∀ (i : Nat) (l m : List S), (∀ j, j < i → ∃ x, l[j]? = some x ∧ m[j]? = some x) → (∀ x, l[i]? = some x → m[i]? ≠ some x) → sameN l m = i
 | 0, [], _, _, _ => by simp [sameN]
 | 0, _ :: _, [], _, _ => by simp [sameN]
 | 0, x :: xs, y :: ys, _, h => by
  have := h x rfl
  rw [sameN, if_neg (fun e => this (by rw [e]; rfl))]
 | i + 1, l, m, h1, h2 => by
  obtain ⟨x, hx, hy⟩ := h1 0 (by omega)
  cases l with
  | nil => simp at hx
  | cons x' xs =>
   cases m with
   | nil => simp at hy
   | cons y' ys =>
    simp only [List.getElem?_cons_zero, Option.some.injEq] at hx hy
    subst hx
    subst hy
    rw [sameN, if_pos rfl, sameN_eq i xs ys (fun j hj => by have := h1 (j + 1) (by omega); simpa using this) (fun z hz => by have := h2 z (by simpa using hz); simpa using this)]
def downs (l : List S) (mx : Nat) : Nat → List S
 | 0 => []
 | k + 1 => if mx ≤ k then joinD (l.take k) :: downs l mx k else []
def ups (m : List S) : Nat → Nat → List S → List S
 | 0, _, out => out
 | k + 1, n, out => ups m k (n + 1) (if joinD (m.take n) ∈ out then out else out ++ [joinD (m.take n)])
def rawB (a b : S) : List S :=
 ups (partsL b) ((partsL b).length - max (sameN (partsL a) (partsL b)) 1) (max (sameN (partsL a) (partsL b)) 1) (downs (partsL a) (max (sameN (partsL a) (partsL b)) 1) (partsL a).length)
def betweenS (a b : S) : List S := if okR a && okR b then (rawB a b).filter fun s => !(decide (s = a) || decide (s = b)) else []
def fit2 (r : S) : Bool := fit r && decide ((partsL r).length ≤ 4) && (List.range 5).all fun k => decide ((joinD ((partsL r).take k)).length ≤ 1000)
theorem fit2_spec {r : S} (h : fit2 r = true) : fit r = true ∧ ∀ k, k ≤ 1002 → (joinD ((partsL r).take k)).length ≤ 1000 := by
 simp only [fit2, Bool.and_eq_true, List.all_eq_true, List.mem_range, decide_eq_true_eq] at h
 refine ⟨h.1.1, fun k hk => ?_⟩
 by_cases h4 : k < 5
 ·exact h.2 k h4
 ·have := h.2 4 (by omega)
  rw [List.take_of_length_le h.1.2] at this
  rw [List.take_of_length_le (by omega)]
  exact this
def lone (a b : S) : Bool := !((rawB a b).any fun s => decide (s = a) || decide (s = b)) || (rawB a b).length == 1
theorem at_row {xs : List S} {i : Nat} {x : S} (h : xs[i]? = some x) : (xs.map sv)[0 + i * 1]? = some (sv x) := by
 rw [Nat.mul_one, Nat.zero_add, List.getElem?_map, h]
 rfl
theorem own_nil {e sz : Nat} : Lg.Own e sz (.slice none 0 0) ([] : List S).length (([] : List S).map sv) [] := ⟨by simp, .inl ⟨rfl, rfl, rfl⟩⟩
theorem ups_len (m : List S) : ∀ (k n : Nat) (out : List S), (ups m k n out).length ≤ out.length + k
 | 0, n, out => Nat.le_refl _
 | k + 1, n, out => by
  have := ups_len m k (n + 1) (if joinD (m.take n) ∈ out then out else out ++ [joinD (m.take n)])
  rw [ups]
  split at this <;> rename_i h
  ·rw [if_pos h]; omega
  ·rw [if_neg h]; simp only [List.length_append, List.length_singleton] at this; omega
set_option maxHeartbeats 4000000 in
theorem Between_ok {a b : S} (hfa : fit2 a = true) (hfb : fit2 b = true) (hl1 : lone a b = true) (hoa : okR a = true) (hob : okR b = true) {W : World} {l : List Ent} : Tr Pg 248 #[.string (ba a), .string (ba b)] W l fun v l' =>
  ∃ le, Lg.Own 9 1 v (betweenS a b).length ((betweenS a b).map sv) le ∧ l' = le ++ l := by
 obtain ⟨ha1, ha2⟩ := fit2_spec hfa
 obtain ⟨hb1, hb2⟩ := fit2_spec hfb
 have hpa := parts_len a (fit_spec ha1).1
 have hpb := parts_len b (fit_spec hb1).1
 refine Tr.of_code (args := [_, _]) Tryz.func248 rfl Tryz.ntmps248 lE_ ?_
 refine AU0 ?_
 refine JLs (e_box (cs := [sv a]) rfl rfl fun a1 => ?_)
 refine JLs (e_box (cs := [sv b]) rfl rfl fun b1 => ?_)
 refine AU2 ?_
 refine JLs (e_call rfl rfl (labels_ok ha1) ?_)
 rintro v l' (⟨-, bl, nl, rfl, hnl, rfl⟩ | ⟨ho, rfl, rfl⟩)
 rotate_left
 ·rw [hoa] at ho; cases ho
 refine JL.perm (l' := (b1, isC 9 [sv b]) :: (a1, isC 9 [sv a]) :: (bl, isR 9 (nl * 1) ((partsL a).map sv)) :: l) prm_ ?_
 refine AU2 ?_
 refine JLs (e_call rfl rfl (labels_ok hb1) ?_)
 rintro v l' (⟨-, bm, nm, rfl, hnm, rfl⟩ | ⟨ho, rfl, rfl⟩)
 rotate_left
 ·rw [hob] at ho; cases ho
 refine JL.perm (l' := (bm, isR 9 (nm * 1) ((partsL b).map sv)) :: (bl, isR 9 (nl * 1) ((partsL a).map sv)) :: (b1, isC 9 [sv b]) :: (a1, isC 9 [sv a]) :: l) prm_ ?_
 refine AU0 ?_
 refine JC.cutb (fun f l' => ∃ s, s = sameN (partsL a) (partsL b) ∧ s ≤ nl ∧ s ≤ nm ∧ FrOk f [(2, .pointer (some ⟨a1, 0, none⟩)), (3, .pointer (some ⟨b1, 0, none⟩)), (5, (.slice (some ⟨bl, 0, none⟩) nl nl)), (6, .int .i64 1), (7, (.slice (some ⟨bm, 0, none⟩) nm nm)), (8, .int .i64 1), (9, .int .i64 (s : Int))] ∧ l' = (bm, isR 9 (nm * 1) ((partsL b).map sv)) :: (bl, isR 9 (nl * 1) ((partsL a).map sv)) :: (b1, isC 9 [sv b]) :: (a1, isC 9 [sv a]) :: l) ?_ fun K' hK => ?_
 rotate_left
 ·-- the count
  refine JC.loop (fun m f l' => ∃ i, i + m = nl ∧ FrOk f [(2, .pointer (some ⟨a1, 0, none⟩)), (3, .pointer (some ⟨b1, 0, none⟩)), (5, (.slice (some ⟨bl, 0, none⟩) nl nl)), (6, .int .i64 1), (7, (.slice (some ⟨bm, 0, none⟩) nm nm)), (8, .int .i64 1), (9, .int .i64 (i : Int))] ∧ i ≤ nm ∧ (∀ j, j < i → ∃ x, (partsL a)[j]? = some x ∧ (partsL b)[j]? = some x) ∧ l' = (bm, isR 9 (nm * 1) ((partsL b).map sv)) :: (bl, isR 9 (nl * 1) ((partsL a).map sv)) :: (b1, isC 9 [sv b]) :: (a1, isC 9 [sv a]) :: l) nl ?_ ?_
  ·exact ⟨0, by omega, ⟨rfl, rfl, rfl, rfl, rfl, rfl, rfl, trivial⟩, Nat.zero_le _, fun j h => absurd h (Nat.not_lt_zero _), rfl⟩
  rintro m f l' ⟨i, hmi, hf, him, heq, rfl⟩
  refine JC.frame _ hf fun f' => ?_
  by_cases hi : i < min nl nm
  ·have hx := List.getElem?_eq_getElem (show i < (partsL a).length by omega)
   have hy := List.getElem?_eq_getElem (show i < (partsL b).length by omega)
   have hlt : decide ((i : Int) < if (nm : Int) < (nl : Int) then (nm : Int) else (nl : Int)) = true := decide_eq_true (by split <;> omega)
   by_cases hxy : (partsL a)[i]'(by omega) = (partsL b)[i]'(by omega)
   ·have e1 := eqSS ((partsL a)[i]'(by omega)) ((partsL b)[i]'(by omega))
    rw [decide_eq_true hxy] at e1
    refine AU0 ?_
    refine JC.drawn 23 rfl mixed ?_
    refine JDp 0 rfl y_mv ?_
    refine JDp 1 rfl y_mv ?_
    refine JDp 2 rfl (y_eql rfl rfl (decide_eq_true (by omega))) ?_
    refine JDp 3 rfl y_mv ?_
    refine JDp 4 rfl y_mv ?_
    refine JDp 5 rfl y_mv ?_
    refine JDp 6 rfl (y_len rfl) ?_
    refine JDp 7 rfl y_mv ?_
    refine JDp 8 rfl (y_len rfl) ?_
    refine JDp 9 rfl (y_min rfl rfl rfl) ?_
    refine JDp 10 rfl (y_lss rfl rfl hlt) ?_
    refine JDp 11 rfl (y_pick_t rfl (by conv => lhs; whnf)) ?_
    refine JDp 12 rfl y_mv ?_
    refine JDp 13 rfl y_mv ?_
    refine JDp 14 rfl y_mv ?_
    refine JDp 15 rfl (y_index (j := i) rfl rfl (by omega)) ?_
    refine JDr 16 1 rfl rfl (r_loadR1 rfl (at_row hx)) ?_
    refine JDp 17 rfl y_mv ?_
    refine JDp 18 rfl y_mv ?_
    refine JDp 19 rfl (y_index (j := i) rfl rfl (by omega)) ?_
    refine JDr 20 0 rfl rfl (r_loadR1 rfl (at_row hy)) ?_
    refine JDp 21 rfl (y_eqlS rfl rfl e1) ?_
    refine JDp 22 rfl (y_pick_t rfl (by conv => lhs; whnf)) ?_
    refine JDd ?_
    refine AU0 ?_
    refine RN.loop (m' := m - 1) (by omega) ⟨i + 1, by omega, ⟨rfl, rfl, rfl, rfl, rfl, rfl, rfl, trivial⟩, by omega, fun j hj => ?_, rfl⟩
    by_cases hji : j = i
    ·subst hji; exact ⟨_, hx, by rw [hxy]; exact hy⟩
    ·exact heq j (by omega)
   ·have e1 := eqSS ((partsL a)[i]'(by omega)) ((partsL b)[i]'(by omega))
    rw [decide_eq_false hxy] at e1
    refine AU0 ?_
    refine JC.drawn 23 rfl mixed ?_
    refine JDp 0 rfl y_mv ?_
    refine JDp 1 rfl y_mv ?_
    refine JDp 2 rfl (y_eql rfl rfl (decide_eq_true (by omega))) ?_
    refine JDp 3 rfl y_mv ?_
    refine JDp 4 rfl y_mv ?_
    refine JDp 5 rfl y_mv ?_
    refine JDp 6 rfl (y_len rfl) ?_
    refine JDp 7 rfl y_mv ?_
    refine JDp 8 rfl (y_len rfl) ?_
    refine JDp 9 rfl (y_min rfl rfl rfl) ?_
    refine JDp 10 rfl (y_lss rfl rfl hlt) ?_
    refine JDp 11 rfl (y_pick_t rfl (by conv => lhs; whnf)) ?_
    refine JDp 12 rfl y_mv ?_
    refine JDp 13 rfl y_mv ?_
    refine JDp 14 rfl y_mv ?_
    refine JDp 15 rfl (y_index (j := i) rfl rfl (by omega)) ?_
    refine JDr 16 1 rfl rfl (r_loadR1 rfl (at_row hx)) ?_
    refine JDp 17 rfl y_mv ?_
    refine JDp 18 rfl y_mv ?_
    refine JDp 19 rfl (y_index (j := i) rfl rfl (by omega)) ?_
    refine JDr 20 0 rfl rfl (r_loadR1 rfl (at_row hy)) ?_
    refine JDp 21 rfl (y_eqlS rfl rfl e1) ?_
    refine JDp 22 rfl (y_pick_t rfl (by conv => lhs; whnf)) ?_
    refine JDd ?_
    refine AU0 ?_
    refine hK _ _ ⟨i, (sameN_eq i _ _ heq fun x h => ?_).symm, by omega, by omega, ⟨rfl, rfl, rfl, rfl, rfl, rfl, rfl, trivial⟩, rfl⟩
    rw [hx] at h
    cases h
    rw [hy]
    exact fun h => hxy (Option.some.inj h).symm
  ·have hlt : decide ((i : Int) < if (nm : Int) < (nl : Int) then (nm : Int) else (nl : Int)) = false := decide_eq_false (by split <;> omega)
   refine AU0 ?_
   refine JC.drawn 23 rfl mixed ?_
   refine JDp 0 rfl y_mv ?_
   refine JDp 1 rfl y_mv ?_
   refine JDp 2 rfl (y_eql rfl rfl (decide_eq_true (by omega))) ?_
   refine JDp 3 rfl y_mv ?_
   refine JDp 4 rfl y_mv ?_
   refine JDp 5 rfl y_mv ?_
   refine JDp 6 rfl (y_len rfl) ?_
   refine JDp 7 rfl y_mv ?_
   refine JDp 8 rfl (y_len rfl) ?_
   refine JDp 9 rfl (y_min rfl rfl rfl) ?_
   refine JDp 10 rfl (y_lss rfl rfl hlt) ?_
   refine JDp 11 rfl (y_pick_t rfl (by conv => lhs; whnf)) ?_
   refine JDp 12 rfl y_mv ?_
   refine JDo 13 rfl ?_
   refine JDo 14 rfl ?_
   refine JDo 15 rfl ?_
   refine JDo 16 rfl ?_
   refine JDo 17 rfl ?_
   refine JDo 18 rfl ?_
   refine JDo 19 rfl ?_
   refine JDo 20 rfl ?_
   refine JDo 21 rfl ?_
   refine JDp 22 rfl (y_pick_f rfl (by conv => lhs; whnf)) ?_
   refine JDd ?_
   refine AU0 ?_
   refine hK _ _ ⟨i, (sameN_eq i _ _ heq fun x h => ?_).symm, by omega, by omega, ⟨rfl, rfl, rfl, rfl, rfl, rfl, rfl, trivial⟩, rfl⟩
   have h1 := (List.getElem?_eq_some_iff.1 h).1
   rw [List.getElem?_eq_none (by omega)]
   exact fun h => by cases h
 rintro f l' ⟨s, hs, hs1, hs2, hf, rfl⟩
 refine RN.frame _ hf fun f' => ?_
 have hmx : (if (1 : Int) > (s : Int) then (1 : Int) else (s : Int)) = ((max s 1 : Nat) : Int) := by split <;> omega
 have hnl1 : IntKind.i64.wrap ((nl : Int) - 1) = (nl : Int) - 1 := wrap_add (by omega) (by omega)
 repeat (first | refine JLp (y_sub rfl rfl hnl1) ?_ | refine AS0 ?_)
 -- the realms above the one
 refine JC.cutb (fun f l' => ∃ (v : Value) (out : List S) (le : List Ent), out = downs (partsL a) (max s 1) nl ∧ out.length ≤ nl ∧ FrOk f [(2, .pointer (some ⟨a1, 0, none⟩)), (3, .pointer (some ⟨b1, 0, none⟩)), (5, (.slice (some ⟨bl, 0, none⟩) nl nl)), (6, .int .i64 1), (7, (.slice (some ⟨bm, 0, none⟩) nm nm)), (8, .int .i64 1), (9, .int .i64 (s : Int)), (10, v)] ∧ Lg.Own 9 1 v out.length (out.map sv) le ∧ l' = le ++ ((bm, isR 9 (nm * 1) ((partsL b).map sv)) :: (bl, isR 9 (nl * 1) ((partsL a).map sv)) :: (b1, isC 9 [sv b]) :: (a1, isC 9 [sv a]) :: l)) ?_ fun K' hK => ?_
 rotate_left
 ·refine JC.loop (fun m f l' => ∃ (v : Value) (out : List S) (le : List Ent), FrOk f [(2, .pointer (some ⟨a1, 0, none⟩)), (3, .pointer (some ⟨b1, 0, none⟩)), (5, (.slice (some ⟨bl, 0, none⟩) nl nl)), (6, .int .i64 1), (7, (.slice (some ⟨bm, 0, none⟩) nm nm)), (8, .int .i64 1), (9, .int .i64 (s : Int)), (10, v), (11, .int .i64 ((m : Int) - 1))] ∧ out ++ downs (partsL a) (max s 1) m = downs (partsL a) (max s 1) nl ∧ out.length + m ≤ nl ∧ Lg.Own 9 1 v out.length (out.map sv) le ∧ l' = le ++ ((bm, isR 9 (nm * 1) ((partsL b).map sv)) :: (bl, isR 9 (nl * 1) ((partsL a).map sv)) :: (b1, isC 9 [sv b]) :: (a1, isC 9 [sv a]) :: l)) nl ?_ ?_
  ·exact ⟨_, [], [], ⟨rfl, rfl, rfl, rfl, rfl, rfl, rfl, rfl, rfl, trivial⟩, rfl, by simp, own_nil, rfl⟩
  rintro m f l' ⟨v, out, le, hf, hd, hlen, ho, rfl⟩
  refine JC.frame _ hf fun f' => ?_
  by_cases hm : max s 1 < m
  ·obtain ⟨k, rfl⟩ : ∃ k, m = k + 1 := ⟨m - 1, by omega⟩
   have hk1 : (((k + 1 : Nat) : Int) - 1) = (k : Int) := by omega
   rw [hk1]
   have hge : decide (((max s 1 : Nat) : Int) ≤ (k : Int)) = true := decide_eq_true (by omega)
   have htl : ((partsL a).take k).length = k := by rw [List.length_take]; omega
   rw [downs, if_pos (by omega)] at hd
   repeat (first | refine JLp (y_max rfl rfl hmx) ?_ | refine JLp (y_geq rfl rfl hge) ?_ | refine JLp (y_slice (l := 0) (h := k) rfl rfl ⟨_, rfl⟩ (by omega) (by omega)) ?_ | refine AS0 ?_)
   have e0 : (if nl = 0 then some (⟨bl, 0, none⟩ : Addr) else some ⟨bl, 0 + 0 * 1, none⟩) = some ⟨bl, 0, none⟩ := by split <;> rfl
   rw [e0]
   refine JLs (e_call rfl rfl (realm_ok (ls := (partsL a).take k) (by omega) (by omega) (by omega) (ha2 k (by omega)) (Src.row (T := 9) (g := bl) (tot := nl * 1) (ys := (partsL a).map sv) (by simp) 0 fun j u hu => by
    rw [Nat.zero_add]
    rw [List.map_take, List.getElem?_take] at hu
    split at hu
    ·exact hu
    ·cases hu)) ?_)
   rintro v1 l' ⟨rfl, rfl⟩
   refine JLs (e_buildSlice (cells := [sv (joinD ((partsL a).take k))]) [sv (joinD ((partsL a).take k))] rfl lE_ rfl (fun u hu => by cases List.mem_singleton.1 hu; rfl) rfl fun bn => ?_)
   refine JLs (e_appendP [_] le rfl rfl ho rfl (news := [sv (joinD ((partsL a).take k))]) rfl (Src.whole (List.mem_cons_self ..)) (fun u hu => by cases List.mem_singleton.1 hu; rfl) (by omega) (by unfold maxLen; omega) fun v' le' ho' _ => ?_)
   refine JL.sub (l' := le' ++ ((bm, isR 9 (nm * 1) ((partsL b).map sv)) :: (bl, isR 9 (nl * 1) ((partsL a).map sv)) :: (b1, isC 9 [sv b]) :: (a1, isC 9 [sv a]) :: l)) (List.sublist_cons_self _ _) ?_
   have hk2 : IntKind.i64.wrap ((k : Int) - 1) = (k : Int) - 1 := wrap_add (by omega) (by omega)
   repeat (first | refine JLp (y_sub rfl rfl hk2) ?_ | refine AS0 ?_)
   refine RN.loop (m' := k) (by omega) ⟨v', out ++ [joinD ((partsL a).take k)], le', ⟨rfl, rfl, rfl, rfl, rfl, rfl, rfl, rfl, rfl, trivial⟩, ?_, by simp only [List.length_append, List.length_singleton]; omega, ?_, rfl⟩
   ·rw [← hd, List.append_assoc]; rfl
   ·rw [List.length_append, List.map_append]; exact ho'
  ·have hge : decide (((max s 1 : Nat) : Int) ≤ ((m : Int) - 1)) = false := decide_eq_false (by omega)
   have hd' : out = downs (partsL a) (max s 1) nl := by
    rw [← hd]
    cases m with
    | zero => simp [downs]
    | succ k => rw [downs, if_neg (by omega), List.append_nil]
   repeat (first | refine JLp (y_max rfl rfl hmx) ?_ | refine JLp (y_geq rfl rfl hge) ?_ | refine AS0 ?_)
   exact hK _ _ ⟨v, out, le, hd', by omega, ⟨rfl, rfl, rfl, rfl, rfl, rfl, rfl, rfl, trivial⟩, ho, rfl⟩
 rintro f l' ⟨v, out, le, hout, holen, hf, ho, rfl⟩
 refine RN.frame _ hf fun f' => ?_
 repeat (first | refine JLp (y_max rfl rfl hmx) ?_ | refine AS0 ?_)
 -- the realms above the other
 refine JC.cutb (fun f l' => ∃ (v : Value) (out1 : List S) (le : List Ent), out1 = ups (partsL b) (nm - max s 1) (max s 1) out ∧ FrOk f [(2, .pointer (some ⟨a1, 0, none⟩)), (3, .pointer (some ⟨b1, 0, none⟩)), (5, (.slice (some ⟨bl, 0, none⟩) nl nl)), (6, .int .i64 1), (7, (.slice (some ⟨bm, 0, none⟩) nm nm)), (8, .int .i64 1), (9, .int .i64 (s : Int)), (10, v)] ∧ Lg.Own 9 1 v out1.length (out1.map sv) le ∧ l' = le ++ ((bm, isR 9 (nm * 1) ((partsL b).map sv)) :: (bl, isR 9 (nl * 1) ((partsL a).map sv)) :: (b1, isC 9 [sv b]) :: (a1, isC 9 [sv a]) :: l)) ?_ fun K' hK => ?_
 rotate_left
 ·refine JC.loop (fun m f l' => ∃ (n : Nat) (v : Value) (out1 : List S) (le : List Ent), m = nm - n ∧ max s 1 ≤ n ∧ FrOk f [(2, .pointer (some ⟨a1, 0, none⟩)), (3, .pointer (some ⟨b1, 0, none⟩)), (5, (.slice (some ⟨bl, 0, none⟩) nl nl)), (6, .int .i64 1), (7, (.slice (some ⟨bm, 0, none⟩) nm nm)), (8, .int .i64 1), (9, .int .i64 (s : Int)), (10, v), (12, .int .i64 (n : Int))] ∧ ups (partsL b) (nm - n) n out1 = ups (partsL b) (nm - max s 1) (max s 1) out ∧ out1.length ≤ nl + n ∧ Lg.Own 9 1 v out1.length (out1.map sv) le ∧ l' = le ++ ((bm, isR 9 (nm * 1) ((partsL b).map sv)) :: (bl, isR 9 (nl * 1) ((partsL a).map sv)) :: (b1, isC 9 [sv b]) :: (a1, isC 9 [sv a]) :: l)) (nm - max s 1) ?_ ?_
  ·exact ⟨max s 1, v, out, le, rfl, Nat.le_refl _, ⟨rfl, rfl, rfl, rfl, rfl, rfl, rfl, rfl, rfl, trivial⟩, rfl, by omega, ho, rfl⟩
  rintro m f l' ⟨n, v, out1, le, hm, hn, hf, hu, hlen, ho, rfl⟩
  refine JC.frame _ hf fun f' => ?_
  by_cases hlt : n < nm
  ·have htl : ((partsL b).take n).length = n := by rw [List.length_take]; omega
   obtain ⟨k, hk⟩ : ∃ k, nm - n = k + 1 := ⟨nm - n - 1, by omega⟩
   rw [hk, ups] at hu
   repeat (first | refine JLp (y_slice (l := 0) (h := n) rfl rfl ⟨_, rfl⟩ (by omega) (by omega)) ?_ | refine AS0 ?_)
   have e0 : (if nm = 0 then some (⟨bm, 0, none⟩ : Addr) else some ⟨bm, 0 + 0 * 1, none⟩) = some ⟨bm, 0, none⟩ := by split <;> rfl
   rw [e0]
   refine JLs (e_call rfl rfl (realm_ok (ls := (partsL b).take n) (by omega) (by omega) (by omega) (hb2 n (by omega)) (Src.row (T := 9) (g := bm) (tot := nm * 1) (ys := (partsL b).map sv) (by simp) 0 fun j u hu => by
    rw [Nat.zero_add]
    rw [List.map_take, List.getElem?_take] at hu
    split at hu
    ·exact hu
    ·cases hu)) ?_)
   rintro v1 l' ⟨rfl, rfl⟩
   obtain ⟨A, c, rfl, hsrc, hc⟩ := ho.src (W := W)
   refine AU0 ?_
   refine JLs (e_call rfl rfl (ContainsS_ok (xs := out1) (joinD ((partsL b).take n)) rfl (by omega) (hsrc.mono fun e he => List.mem_append_left _ he)) ?_)
   rintro v1 l' ⟨rfl, rfl⟩
   by_cases hin : joinD ((partsL b).take n) ∈ out1
   ·rw [decide_eq_true hin]
    rw [if_pos hin] at hu
    refine AU0 ?_
    exact RN.loop (m' := m - 1) (by omega) ⟨n + 1, _, out1, le, by omega, by omega, ⟨rfl, rfl, rfl, rfl, rfl, rfl, rfl, rfl, rfl, trivial⟩, by rw [show nm - (n + 1) = k from by omega]; exact hu, by omega, ho, rfl⟩
   ·rw [decide_eq_false hin]
    rw [if_neg hin] at hu
    refine AU0 ?_
    refine JLs (e_buildSlice (cells := [sv (joinD ((partsL b).take n))]) [sv (joinD ((partsL b).take n))] rfl lE_ rfl (fun u hu => by cases List.mem_singleton.1 hu; rfl) rfl fun bn => ?_)
    refine JLs (e_appendP [_] le rfl rfl ho rfl (news := [sv (joinD ((partsL b).take n))]) rfl (Src.whole (List.mem_cons_self ..)) (fun u hu => by cases List.mem_singleton.1 hu; rfl) (by omega) (by unfold maxLen; omega) fun v' le' ho' _ => ?_)
    refine JL.sub (l' := le' ++ ((bm, isR 9 (nm * 1) ((partsL b).map sv)) :: (bl, isR 9 (nl * 1) ((partsL a).map sv)) :: (b1, isC 9 [sv b]) :: (a1, isC 9 [sv a]) :: l)) (List.sublist_cons_self _ _) ?_
    refine AU0 ?_
    refine RN.loop (m' := m - 1) (by omega) ⟨n + 1, v', out1 ++ [joinD ((partsL b).take n)], le', by omega, by omega, ⟨rfl, rfl, rfl, rfl, rfl, rfl, rfl, rfl, rfl, trivial⟩, by rw [show nm - (n + 1) = k from by omega]; exact hu, by simp only [List.length_append, List.length_singleton]; omega, ?_, rfl⟩
    rw [List.length_append, List.map_append]
    exact ho'
  ·refine AU0 ?_
   refine hK _ _ ⟨v, out1, le, ?_, ⟨rfl, rfl, rfl, rfl, rfl, rfl, rfl, rfl, trivial⟩, ho, rfl⟩
   rw [← hu, show nm - n = 0 from by omega]
   rfl
 rintro f l' ⟨v, out1, le, hout1, hf, ho, rfl⟩
 refine RN.frame _ hf fun f' => ?_
 have hraw : out1 = rawB a b := by rw [hout1, hout]; unfold rawB; rw [← hs, ← hnl, ← hnm]
 have hbt : betweenS a b = (rawB a b).filter fun s => !(decide (s = a) || decide (s = b)) := by unfold betweenS; rw [hoa, hob]; rfl
 rw [← hraw] at hbt
 rw [hbt]
 have hlen : out1.length ≤ 3000 := by
  have := ups_len (partsL b) (nm - max s 1) (max s 1) out
  rw [← hout1] at this
  omega
 unfold lone at hl1
 rw [← hraw] at hl1
 repeat (first | refine JLp (y_makeFunc (v := .func (.func 272) #[] #[.pointer (some ⟨a1, 0, none⟩), .pointer (some ⟨b1, 0, none⟩)]) (by simp only [List.map_toArray, List.map_cons, List.map_nil]; rfl)) ?_ | refine AS0 ?_)
 by_cases hany : (out1.any fun s => decide (s = a) || decide (s = b)) = true
 ·rw [hany] at hl1
  simp only [Bool.not_true, Bool.false_or, beq_iff_eq] at hl1
  obtain ⟨x, rfl⟩ : ∃ x, out1 = [x] := List.length_eq_one_iff.1 hl1
  obtain ⟨g, cap, rfl, hc1, hc2, rfl⟩ := own_some ho (Nat.succ_pos _)
  have hx : (decide (x = a) || decide (x = b)) = true := by simpa using hany
  refine JLs (e_call rfl rfl (DeleteFunc_one (x := x) (tot := cap * 1) (fun s => decide (s = a) || decide (s = b)) inferInstance hc1 (same_ok 4 3 rfl rfl) hx) ?_)
  rintro v l' ⟨rfl, rfl⟩
  have hfl : ([x].filter fun s => !(decide (s = a) || decide (s = b))) = [] := (List.filter_cons_of_neg (by rw [hx]; exact Bool.false_ne_true)).trans rfl
  rw [hfl]
  refine AU0 ?_
  refine JC.sub (l' := [(g, isR 9 (cap * 1) [])] ++ l) ?_ (JC.ret (RT.one rfl rfl rfl ⟨_, ⟨rfl, .inr ⟨g, cap, rfl, Nat.zero_le _, hc2, rfl⟩⟩, rfl⟩))
  exact List.Sublist.cons_cons _ (List.sublist_append_right [_, _, _, _] l)
 ·have hno : ∀ x ∈ out1, (decide (x = a) || decide (x = b)) = false := fun x hx => by
   rw [Bool.eq_false_iff]
   exact fun h => hany (List.any_eq_true.2 ⟨x, hx, h⟩)
  obtain ⟨A, c, rfl, hsrc, hc⟩ := ho.src (W := W)
  have hfl : (out1.filter fun s => !(decide (s = a) || decide (s = b))) = out1 := List.filter_eq_self.2 fun x hx => by rw [hno x hx]; rfl
  rw [hfl]
  refine JL.perm (l' := (bm, isR 9 (nm * 1) ((partsL b).map sv)) :: (bl, isR 9 (nl * 1) ((partsL a).map sv)) :: (b1, isC 9 [sv b]) :: (a1, isC 9 [sv a]) :: (le ++ l)) prm_ ?_
  refine JLs (e_call rfl rfl (DeleteFunc_none (xs := out1) (fun s => decide (s = a) || decide (s = b)) inferInstance rfl (by omega) (hsrc.mono fun e he => by simp [he]) (fun x hx => same_ok 3 2 rfl rfl) hno) ?_)
  rintro v l' ⟨rfl, rfl⟩
  refine AU0 ?_
  refine JC.sub (l' := le ++ l) ?_ (JC.ret (RT.one rfl rfl (by conv => lhs; whnf) ⟨le, ho, rfl⟩))
  exact List.sublist_append_right [_, _, _, _] _
end Go.Proofs.YtbalcgjphkdecaaGreatDoor.To
namespace Go.Proofs.YtbalcgjphkdecaaGreatDoor.To
open Go.RowKit Go.Lg
set_option maxRecDepth 100000
attribute [local irreducible] JC JL JD RN RT Eff Yld YldIf Tr partsL okR splitL wordB joinD fit
def ptr (b : Nat) : Value := .pointer (some ⟨b, 0, none⟩)
theorem Under_no {a b : S} (hfa : fit a = true) (hfb : fit b = true) (hoa : okR a = true) (hob : okR b = true) (hle : (partsL a).length ≤ (partsL b).length) {W : World} {l : List Ent} : Tr Pg 283 #[.string (ba a), .string (ba b)] W l fun v l' => v = .bool false ∧ l' = l := by
 refine Tr.of_code (args := [_, _]) Tryz.func283 rfl Tryz.ntmps283 lE_ ?_
 refine AU0 ?_
 refine JLs (e_call rfl rfl (labels_ok hfa) ?_)
 rintro v l' (⟨-, bl, nl, rfl, hnl, rfl⟩ | ⟨ho, rfl, rfl⟩)
 rotate_left
 ·rw [hoa] at ho; cases ho
 refine AU0 ?_
 refine JLs (e_call rfl rfl (labels_ok hfb) ?_)
 rintro v l' (⟨-, bm, nm, rfl, hnm, rfl⟩ | ⟨ho, rfl, rfl⟩)
 rotate_left
 ·rw [hob] at ho; cases ho
 have hlt : decide ((nm : Int) < (nl : Int)) = false := decide_eq_false (by omega)
 repeat (first | refine JLp (y_gtr rfl rfl hlt) ?_ | refine AS0 ?_)
 exact JC.sub (List.sublist_append_right [_, _] l) (JC.ret (RT.one rfl rfl rfl ⟨rfl, rfl⟩))
theorem short_ok {a b : S} (hfa : fit a = true) (hfb : fit b = true) (hoa : okR a = true) (hob : okR b = true) (hle : (partsL a).length ≤ (partsL b).length) {W : World} {l : List Ent} : Tr Pg 267 #[.string (ba a), .string (ba b)] W l fun v l' => v = sv a ∧ l' = l := by
 refine Tr.of_code (args := [_, _]) Tryz.func267 rfl Tryz.ntmps267 lE_ ?_
 refine AU0 ?_
 refine JLs (e_call rfl rfl (Under_no hfa hfb hoa hob hle) ?_)
 rintro v l' ⟨rfl, rfl⟩
 refine AU0 ?_
 refine JLs (e_call rfl rfl (Kind_ok hfa) ?_)
 rintro v l' ⟨rfl, rfl⟩
 rw [hoa]
 simp only [cond_true]
 refine AU0 ?_
 exact JC.ret (RT.one rfl rfl rfl ⟨rfl, rfl⟩)
theorem notIs_ok {r : S} (hf : fit r = true) {W : World} {l : List Ent} : Tr Pg 266 #[.string (ba r)] W l fun v l' => v = .bool (!okR r) ∧ l' = l := by
 refine Tr.of_code (args := [_]) Tryz.func266 rfl Tryz.ntmps266 lE_ ?_
 refine AU0 ?_
 refine JLs (e_call rfl rfl (Is_ok hf) ?_)
 rintro v l' ⟨rfl, rfl⟩
 refine AU0 ?_
 exact JC.ret (RT.one rfl rfl rfl ⟨rfl, rfl⟩)
def flatB : List S → Bool
 | a :: b :: r => decide ((partsL b).length ≤ (partsL a).length) && flatB (b :: r)
 | _ => true
theorem flatB_at : ∀ (l : List S), flatB l = true → ∀ i a b, l[i]? = some a → l[i + 1]? = some b → (partsL b).length ≤ (partsL a).length
 | [], _, i, a, b, h, _ => by simp at h
 | [x], _, i, a, b, _, h => by simp at h
 | x :: y :: r, hf, i, a, b, h1, h2 => by
  simp only [flatB, Bool.and_eq_true, decide_eq_true_eq] at hf
  cases i with
  | zero =>
   simp only [List.getElem?_cons_zero, Option.some.injEq, Nat.zero_add, List.getElem?_cons_succ] at h1 h2
   subst h1
   subst h2
   exact hf.1
  | succ i => exact flatB_at (y :: r) hf.2 i a b (by simpa using h1) (by simpa using h2)
def plain (l : List S) : Bool := flatB l && l.all (fun r => fit r && okR r) && decide (l.length ≤ 8) && decide ((Lib.join l [44]).length ≤ 1000)
theorem plain_spec {l : List S} (h : plain l = true) : flatB l = true ∧ (∀ r ∈ l, fit r = true ∧ okR r = true) ∧ l.length ≤ 8 ∧ (Lib.join l [44]).length ≤ 1000 := by
 simp only [plain, Bool.and_eq_true, decide_eq_true_eq, List.all_eq_true] at h
 exact ⟨h.1.1.1, h.1.1.2, h.1.2, h.2⟩
set_option maxHeartbeats 1000000 in
theorem Compress_ok {ls : List S} (hp : plain ls = true) {A : Option Addr} {n c : Nat} {W : World} {l : List Ent} (hn : ls.length = n) (hs : Src W l A (ls.map sv)) :
  Tr Pg 244 #[.slice A n c] W l fun v l' => v = .tuple #[.string (ba (Lib.join ls [44])), .int .i64 0] ∧ l' = l := by
 obtain ⟨h1, h2, h3, h4⟩ := plain_spec hp
 have hno : (ls.any fun r => !okR r) = false := by
  rw [Bool.eq_false_iff]
  intro h
  obtain ⟨x, hx, hy⟩ := List.any_eq_true.1 h
  rw [(h2 x hx).2] at hy
  cases hy
 refine Tr.of_code (args := [_]) Tryz.func244 rfl Tryz.ntmps244 lE_ ?_
 refine AU0 ?_
 refine JLs (e_call rfl rfl (ContainsFuncS_ok (g := 266) (cap := #[]) (xs := ls) (fun r => !okR r) inferInstance hn (by omega) (by rw [flat1]; exact hs) (fun x hx => notIs_ok (h2 x hx).1)) ?_)
 rintro v l' ⟨rfl, rfl⟩
 rw [hno]
 have hle : decide ((8 : Int) < (n : Int)) = false := decide_eq_false (by omega)
 repeat (first | refine JLp (y_gtr rfl rfl hle) ?_ | refine AS0 ?_)
 refine JC.loop (fun m f l1 => ∃ (i : Nat) (v : Value) (le : List Ent), i + m = n ∧ FrOk f [(0, .slice A n c), (4, v), (12, .slice A n c), (13, .int .i64 (n : Int)), (14, .int .i64 (i : Int))] ∧ Lg.Own 9 1 v i ((ls.take i).map sv) le ∧ l1 = le ++ l') n ?_ ?_
 ·exact ⟨0, _, [], by omega, ⟨rfl, rfl, rfl, rfl, rfl, trivial⟩, Lg.Own.nil _ _, rfl⟩
 rintro m f l1 ⟨i, v, le, hmi, hf, ho, rfl⟩
 refine JC.frame _ hf fun f' => ?_
 by_cases hi : i < n
 ·have hi' : i < ls.length := by omega
  obtain ⟨b, o, rfl, hc⟩ := hs.at_ (by simp; omega)
  have hy := List.getElem?_eq_getElem hi'
  have hst : ls.take (i + 1) = ls.take i ++ [ls[i]'hi'] := List.take_succ_eq_append_getElem hi'
  refine AU0 ?_
  refine JLs (e_loadS (u := sv (ls[i]'hi')) rfl (fun w hw => by rw [Nat.mul_one]; exact hc _ (fun _ h => List.mem_append_right _ h) w hw i _ (by simp [hy])) ?_)
  refine AU0 ?_
  by_cases h0 : i = 0
  ·subst h0
   refine AU0 ?_
   refine JLs (e_buildSlice (cells := [sv (ls[0]'hi')]) [sv (ls[0]'hi')] rfl lE_ rfl (fun u hu => by cases List.mem_singleton.1 hu; rfl) rfl fun bn => ?_)
   refine JLs (e_appendP [_] le rfl rfl ho rfl (news := [sv (ls[0]'hi')]) rfl (Src.whole (List.mem_cons_self ..)) (fun u hu => by cases List.mem_singleton.1 hu; rfl) (by omega) (by unfold maxLen; omega) fun v' le' ho' _ => ?_)
   refine JL.sub (l' := le' ++ l') (List.sublist_cons_self _ _) ?_
   refine AU0 ?_
   exact RN.loop (m' := m - 1) (by omega) ⟨1, v', le', by omega, ⟨rfl, rfl, rfl, rfl, rfl, trivial⟩, by rw [hst, List.map_append]; exact ho', rfl⟩
  ·have h0' : decide ((0 : Int) < (i : Int)) = true := decide_eq_true (by omega)
   have hw : IntKind.i64.wrap ((i : Int) - 1) = ((i - 1 : Nat) : Int) := by rw [wrap_add (by omega) (by omega)]; omega
   have hi1 : i - 1 < ls.length := by omega
   have hz := List.getElem?_eq_getElem hi1
   repeat (first | refine JLp (y_gtr rfl rfl h0') ?_ | refine JLp (y_sub rfl rfl hw) ?_ | refine AS0 ?_)
   refine JLs (e_loadS (u := sv (ls[i - 1]'hi1)) rfl (fun w hw => by rw [Nat.mul_one]; exact hc _ (fun _ h => List.mem_append_right _ h) w hw (i - 1) _ (by simp [hz])) ?_)
   refine JLs (e_call rfl rfl (short_ok (a := ls[i]'hi') (b := ls[i - 1]'hi1) (h2 _ (List.getElem_mem hi')).1 (h2 _ (List.getElem_mem hi1)).1 (h2 _ (List.getElem_mem hi')).2 (h2 _ (List.getElem_mem hi1)).2 (flatB_at ls h1 (i - 1) _ _ hz (by rw [show i - 1 + 1 = i from by omega]; exact hy))) ?_)
   rintro v1 l1 ⟨rfl, rfl⟩
   refine AU0 ?_
   refine JLs (e_buildSlice (cells := [sv (ls[i]'hi')]) [sv (ls[i]'hi')] rfl lE_ rfl (fun u hu => by cases List.mem_singleton.1 hu; rfl) rfl fun bn => ?_)
   refine JLs (e_appendP [_] le rfl rfl ho rfl (news := [sv (ls[i]'hi')]) rfl (Src.whole (List.mem_cons_self ..)) (fun u hu => by cases List.mem_singleton.1 hu; rfl) (by omega) (by unfold maxLen; omega) fun v' le' ho' _ => ?_)
   refine JL.sub (l' := le' ++ l') (List.sublist_cons_self _ _) ?_
   refine AU0 ?_
   exact RN.loop (m' := m - 1) (by omega) ⟨i + 1, v', le', by omega, ⟨rfl, rfl, rfl, rfl, rfl, trivial⟩, by rw [hst, List.map_append]; exact ho', rfl⟩
 ·obtain rfl : n = i := by omega
  rw [List.take_of_length_le (by omega)] at ho
  obtain ⟨A', c', rfl, hsrc, hc'⟩ := ho.src (W := W)
  refine AU0 ?_
  refine JLs (e_call rfl rfl (Join_ok [44] (xs := ls) hn hc' (by omega) (by omega) (hsrc.mono fun e he => List.mem_append_left _ he)) ?_)
  rintro v l1 ⟨rfl, rfl⟩
  refine AU0 ?_
  exact JC.sub (List.sublist_append_right _ _) (JC.ret (RT.two rfl rfl rfl rfl ⟨rfl, rfl⟩))
def clean (r : S) : Bool := fit r && okR r && decide (r ≠ []) && !(Lib.hasSuffix r [46]) && !(Lib.hasPrefix r [32])
theorem clean_spec {r : S} (h : clean r = true) : fit r = true ∧ okR r = true ∧ r ≠ [] ∧ Lib.hasSuffix r [46] = false ∧ Lib.hasPrefix r [32] = false := by
 simp only [clean, Bool.and_eq_true, decide_eq_true_eq, Bool.not_eq_true'] at h
 exact ⟨h.1.1.1.1, h.1.1.1.2, h.1.1.2, h.1.2, h.2⟩
theorem trealm_ok {r : S} (h : clean r = true) (a : S) {W : World} {l : List Ent} : Tr Pg 220 #[.string (ba r), .string (ba a)] W l fun v l' => v = .tuple #[sv r, .bool true] ∧ l' = l := by
 obtain ⟨h1, h2, h3, h4, h5⟩ := clean_spec h
 have hl := (fit_spec h1).1
 refine Tr.of_code (args := [_, _]) Tryz.func220 rfl Tryz.ntmps220 lE_ ?_
 refine AU0 ?_
 refine JLs (e_call rfl rfl (HasSuffix_ok r [46] (by unfold maxLen; omega)) ?_)
 rintro v l' ⟨rfl, rfl⟩
 rw [h4]
 refine AU0 ?_
 refine JLs (e_call rfl rfl (HasPrefix_ok r [47]) ?_)
 rintro v l' ⟨rfl, rfl⟩
 rw [(fit_spec h1).2.1]
 refine AU0 ?_
 refine JLs (e_call rfl rfl (HasPrefix_ok r [32]) ?_)
 rintro v l' ⟨rfl, rfl⟩
 rw [h5]
 refine AU0 ?_
 refine JLs (e_call rfl rfl (Is_ok h1) ?_)
 rintro v l' ⟨rfl, rfl⟩
 rw [h2]
 refine AU0 ?_
 exact JC.ret (RT.two rfl rfl rfl rfl ⟨rfl, rfl⟩)
set_option maxHeartbeats 1000000 in
theorem adds_ok {xb : Nat} {v : Value} {ah x : S} {ls : List S} {A : Option Addr} {c : Nat} {W : World} {le r : List Ent} (ho : Lg.Own 9 1 v ls.length (ls.map sv) le) (hm : ls.length ≤ 1000) (hx : x ∉ ls) (hs : Src W r A [sv x]) :
  Tr Pg 222 #[ptr xb, .slice A 1 c] W ((xb, isC 352 [v, sv ah, .bool false]) :: (le ++ r)) fun _ l' => ∃ v' le', Lg.Own 9 1 v' (ls.length + 1) ((ls ++ [x]).map sv) le' ∧ l' = (xb, isC 352 [v', sv ah, .bool false]) :: (le' ++ r) := by
 obtain ⟨b, o, rfl, hc⟩ := hs.at_ (Nat.succ_pos _)
 refine Tr.of_code (args := [_, _]) Tryz.func222 rfl Tryz.ntmps222 lE_ ?_
 refine AU0 ?_
 refine JC.loop (fun m f l1 => (m = 1 ∧ FrOk f [(0, ptr xb), (6, .slice (some ⟨b, o, none⟩) 1 c), (7, .int .i64 1), (8, .int .i64 0)] ∧ l1 = (xb, isC 352 [v, sv ah, .bool false]) :: (le ++ r)) ∨
  (m = 0 ∧ FrOk f [(0, ptr xb), (6, .slice (some ⟨b, o, none⟩) 1 c), (7, .int .i64 1), (8, .int .i64 1)] ∧ ∃ v' le', Lg.Own 9 1 v' (ls.length + 1) ((ls ++ [x]).map sv) le' ∧ l1 = (xb, isC 352 [v', sv ah, .bool false]) :: (le' ++ r))) 1 (.inl ⟨rfl, ⟨rfl, rfl, rfl, rfl, trivial⟩, rfl⟩) ?_
 rintro m f l1 (⟨rfl, hf, rfl⟩ | ⟨rfl, hf, v', le', ho', rfl⟩)
 ·refine JC.frame _ hf fun f' => ?_
  obtain ⟨A', c', rfl, hsrc, hc'⟩ := ho.src (W := W)
  repeat (first | refine JLp (y_index (j := 0) rfl rfl (by omega)) ?_ | refine AS0 ?_)
  refine JLs (e_loadS (u := sv x) rfl (fun w hw => hc _ (fun _ h => List.mem_cons_of_mem _ (List.mem_append_right _ h)) w hw 0 _ rfl) ?_)
  refine AU1 ?_
  refine JLs (e_call rfl rfl (ContainsS_ok (xs := ls) x rfl (by omega) (hsrc.mono fun e he => by simp [he])) ?_)
  rintro v1 l1 ⟨rfl, rfl⟩
  rw [decide_eq_false hx]
  refine AU1 ?_
  refine JLs (e_buildSlice (cells := [sv x]) [sv x] rfl lE_ rfl (fun u hu => by cases List.mem_singleton.1 hu; rfl) rfl fun bn => ?_)
  refine JLs (e_appendP [_, _] le rfl rfl ho rfl (news := [sv x]) rfl (Src.whole (List.mem_cons_self ..)) (fun u hu => by cases List.mem_singleton.1 hu; rfl) (by omega) (by unfold maxLen; omega) fun v' le' ho' _ => ?_)
  obtain ⟨A2, c2, rfl, -, -⟩ := ho'.src (W := W)
  refine AU2 ?_
  refine JLs (e_store 1 rfl rfl (by conv => lhs; whnf) (vs := [.slice A2 (ls.length + 1) c2]) rfl rfl rfl lE_ ?_)
  refine JL.sub (l' := (xb, isC 352 [.slice A2 (ls.length + 1) c2, sv ah, .bool false]) :: (le' ++ r)) (List.sublist_cons_self _ _) ?_
  refine AU0 ?_
  exact RN.loop (m' := 0) (by omega) (.inr ⟨rfl, ⟨rfl, rfl, rfl, rfl, trivial⟩, _, le', by rw [List.map_append]; exact ho', rfl⟩)
 ·refine JC.frame _ hf fun f' => ?_
  refine AU0 ?_
  exact RN.none rfl ⟨v', le', ho', rfl⟩
theorem fills_no {xb : Nat} {v : Value} {ah : S} {x y : Value} {W : World} {r : List Ent} : Tr Pg 221 #[ptr xb, x, y] W ((xb, isC 352 [v, sv ah, .bool false]) :: r) fun _ l' => l' = (xb, isC 352 [v, sv ah, .bool false]) :: r := by
 refine Tr.of_code (args := [_, _, _]) Tryz.func221 rfl Tryz.ntmps221 lE_ ?_
 refine AU1 ?_
 exact JC.ret (RT.none rfl rfl rfl)
end Go.Proofs.YtbalcgjphkdecaaGreatDoor.To
namespace Go.Proofs.YtbalcgjphkdecaaGreatDoor.To
open Go.RowKit Go.Lg
set_option maxRecDepth 100000
attribute [local irreducible] JC JL JD RN RT Eff Yld YldIf Tr partsL okR splitL wordB joinD fit
def told (s : S) (ls : List S) : Bool := (decide (s = []) && decide (ls = [])) || (decide (s ≠ []) && decide (s.length ≤ 1000) && decide (splitL s 44 = ls) && ls.all clean && decide ls.Nodup && decide (ls.length ≤ 8))
theorem told_spec {s : S} {ls : List S} (h : told s ls = true) : (s = [] ∧ ls = []) ∨ (s ≠ [] ∧ s.length ≤ 1000 ∧ splitL s 44 = ls ∧ (∀ r ∈ ls, clean r = true) ∧ ls.Nodup ∧ ls.length ≤ 8) := by
 simp only [told, Bool.or_eq_true, Bool.and_eq_true, decide_eq_true_eq, List.all_eq_true] at h
 rcases h with h | h
 ·exact .inl h
 ·exact .inr ⟨h.1.1.1.1.1, h.1.1.1.1.2, h.1.1.1.2, h.1.1.2, h.1.2, h.2⟩
set_option maxHeartbeats 2000000 in
theorem Expand_ok {s a b : S} {ls : List S} (ht : told s ls = true) (hfa : fit a = true) (hoa : okR a = true) (hfb : fit b = true) (hob : okR b = true) {W : World} {l : List Ent} :
  Tr Pg 182 #[.string (ba s), .string (ba a), .string (ba b)] W l fun v l' => ∃ v1 le, v = .tuple #[v1, .int .i64 0] ∧ Lg.Own 9 1 v1 ls.length (ls.map sv) le ∧ l' = le ++ l := by
 refine Tr.of_code (args := [_, _, _]) Tryz.func182 rfl Tryz.ntmps182 lE_ ?_
 refine AU0 ?_
 refine JLs (e_call rfl rfl (Is_ok hfa) ?_)
 rintro v l' ⟨rfl, rfl⟩
 rw [hoa]
 refine AU0 ?_
 refine JLs (e_call rfl rfl (Is_ok hfb) ?_)
 rintro v l' ⟨rfl, rfl⟩
 rw [hob]
 have es : ((ba s).toList == (ByteArray.mk #[]).toList) = decide (s = []) := by rw [show (ByteArray.mk #[]) = ba [] from rfl, eqSS]
 rcases told_spec ht with ⟨hs, rfl⟩ | ⟨hs, hlen, hsp, hcl, hnd, h8⟩
 ·rw [decide_eq_true hs] at es
  repeat (first | refine JLp (y_eqlS rfl rfl es) ?_ | refine AS0 ?_)
  exact JC.ret (RT.two rfl rfl rfl rfl ⟨_, [], rfl, Lg.Own.nil _ _, rfl⟩)
 rw [decide_eq_false hs] at es
 repeat (first | refine JLp (y_eqlS rfl rfl es) ?_ | refine JLp (y_build (cells := #[.slice none 0 0, sv [], .bool false]) rfl) ?_ | refine AS0 ?_)
 refine JLs (e_box (cs := [.slice none 0 0, sv [], .bool false]) rfl rfl fun xb => ?_)
 refine AU0 ?_
 refine JLs (e_call rfl rfl (Split_ok s 44 (by omega)) ?_)
 rintro v l1 ⟨bq, n, rfl, hn, rfl⟩
 rw [hsp] at hn ⊢
 refine AU0 ?_
 refine JC.perm (l' := (xb, isC 352 [.slice none 0 0, sv [], .bool false]) :: ([] ++ ((bq, isR 9 (n * 1) (ls.map sv)) :: l'))) prm_ ?_
 refine JC.loop (fun m f l1 => ∃ (i : Nat) (v : Value) (ah : S) (le : List Ent), i + m = n ∧ FrOk f [(1, .string (ba a)), (2, .string (ba b)), (8, ptr xb), (26, .slice (some ⟨bq, 0, none⟩) n n), (27, .int .i64 (n : Int)), (28, .int .i64 (i : Int))] ∧ Lg.Own 9 1 v i ((ls.take i).map sv) le ∧ l1 = (xb, isC 352 [v, sv ah, .bool false]) :: (le ++ ((bq, isR 9 (n * 1) (ls.map sv)) :: l'))) n ?_ ?_
 ·exact ⟨0, _, _, [], by omega, ⟨rfl, rfl, rfl, rfl, rfl, rfl, trivial⟩, Lg.Own.nil _ _, rfl⟩
 rintro m f l1 ⟨i, v, ah, le, hmi, hf, ho, rfl⟩
 refine JC.frame _ hf fun f' => ?_
 by_cases hi : i < n
 ·have hi' : i < ls.length := by omega
  have hy := List.getElem?_eq_getElem hi'
  have hst : ls.take (i + 1) = ls.take i ++ [ls[i]'hi'] := List.take_succ_eq_append_getElem hi'
  have hc := hcl _ (List.getElem_mem hi')
  have htl : (ls.take i).length = i := by rw [List.length_take]; omega
  have hnin : ls[i]'hi' ∉ ls.take i := fun hin => by
   rw [← List.take_append_drop (i + 1) ls, hst, List.append_assoc, List.nodup_append] at hnd
   exact hnd.2.2 _ hin _ (List.mem_append_left _ (List.mem_singleton.2 rfl)) rfl
  refine JC.perm (l' := (bq, isR 9 (n * 1) (ls.map sv)) :: (xb, isC 352 [v, sv ah, .bool false]) :: (le ++ l')) prm_ ?_
  refine AU0 ?_
  refine JL.read 0 rfl rfl (r_loadR1 (v := sv (ls[i]'hi')) rfl (at_row hy)) ?_
  have e1 : ((ba (ls[i]'hi')).toList == (ByteArray.mk #[]).toList) = false := by rw [show (ByteArray.mk #[]) = ba [] from rfl, eqSS]; exact decide_eq_false (clean_spec hc).2.2.1
  repeat (first | refine JLp (y_eqlS rfl rfl e1) ?_ | refine AS2 ?_)
  refine JLs (e_call rfl rfl (trealm_ok hc ah) ?_)
  rintro v1 l1 ⟨rfl, rfl⟩
  refine AU2 ?_
  refine JLs (e_call rfl rfl (Tr.perm (l' := (xb, isC 352 [v, sv ah, .bool false]) :: ((bq, isR 9 (n * 1) (ls.map sv)) :: (le ++ l'))) prm_ fills_no) ?_)
  rintro v1 l1 rfl
  refine AU2 ?_
  refine JLs (e_buildSlice (cells := [sv (ls[i]'hi')]) [sv (ls[i]'hi')] rfl lE_ rfl (fun u hu => by cases List.mem_singleton.1 hu; rfl) rfl fun bn => ?_)
  refine JLs (e_call rfl rfl (Tr.perm (l' := (xb, isC 352 [v, sv ah, .bool false]) :: (le ++ ((bn, isR 9 (1 * 1) [sv (ls[i]'hi')]) :: (bq, isR 9 (n * 1) (ls.map sv)) :: l'))) prm_ (adds_ok (x := ls[i]'hi') (ls := ls.take i) (by rw [htl]; exact ho) (by omega) hnin (Src.whole (List.mem_cons_self ..)))) ?_)
  rintro v1 l1 ⟨v2, le2, ho2, rfl⟩
  rw [htl] at ho2
  obtain ⟨A2, c2, rfl, -, -⟩ := ho2.src (W := W)
  refine JL.sub (l' := (xb, isC 352 [.slice A2 (i + 1) c2, sv ah, .bool false]) :: (le2 ++ ((bq, isR 9 (n * 1) (ls.map sv)) :: l'))) (List.Sublist.cons_cons _ (List.Sublist.append_left (List.sublist_cons_self _ _) _)) ?_
  refine AU1 ?_
  refine JLs (e_store 0 rfl rfl (by conv => lhs; whnf) (vs := [sv (ls[i]'hi')]) rfl rfl rfl lE_ ?_)
  refine JL.cast (l' := (xb, isC 352 [.slice A2 (i + 1) c2, sv (ls[i]'hi'), .bool false]) :: (le2 ++ ((bq, isR 9 (n * 1) (ls.map sv)) :: l'))) (by rfl) ?_
  have h9 : decide ((8 : Int) < ((i + 1 : Nat) : Int)) = false := decide_eq_false (by omega)
  repeat (first | refine JLp (y_gtr rfl rfl h9) ?_ | refine AS1 ?_)
  exact RN.loop (m' := m - 1) (by omega) ⟨i + 1, _, _, le2, by omega, ⟨rfl, rfl, rfl, rfl, rfl, rfl, trivial⟩, by rw [hst]; exact ho2, rfl⟩
 ·obtain rfl : n = i := by omega
  rw [List.take_of_length_le (by omega)] at ho
  refine AU1 ?_
  refine JLs (e_call rfl rfl fills_no ?_)
  rintro v1 l1 rfl
  obtain ⟨A2, c2, rfl, -, -⟩ := ho.src (W := W)
  have h9 : decide ((8 : Int) < (n : Int)) = false := decide_eq_false (by omega)
  repeat (first | refine JLp (y_gtr rfl rfl h9) ?_ | refine AS1 ?_)
  refine JC.sub (l' := le ++ l') (List.Sublist.cons _ (List.Sublist.append_left (List.sublist_cons_self _ _) _)) ?_
  refine JC.ret (RT.two rfl rfl rfl rfl ⟨_, le, rfl, ?_, rfl⟩)
  rw [← hn]
  exact ho
set_option maxHeartbeats 1000000 in
theorem Insert_ok {s a b x : S} {ls : List S} (ht : told s ls = true) (hfa : fit a = true) (hoa : okR a = true) (hfb : fit b = true) (hob : okR b = true) (hfx : fit x = true) (hox : okR x = true) (hxa : x ≠ a) (hxb : x ≠ b) (hx : x ∉ ls) (hp : plain (ls ++ [x]) = true) {W : World} {l : List Ent} :
  Tr Pg 210 #[.string (ba s), .string (ba a), .string (ba b), .string (ba x)] W l fun v l' => v = .tuple #[.string (ba (Lib.join (ls ++ [x]) [44])), .int .i64 0] ∧ l' = l := by
 have hlen := (plain_spec hp).2.2.1
 rw [List.length_append, List.length_singleton] at hlen
 refine Tr.of_code (args := [_, _, _, _]) Tryz.func210 rfl Tryz.ntmps210 lE_ ?_
 refine AU0 ?_
 refine JLs (e_call rfl rfl (Expand_ok ht hfa hoa hfb hob) ?_)
 rintro v l' ⟨v1, le, rfl, ho, rfl⟩
 refine AU0 ?_
 refine JLs (e_call rfl rfl (Is_ok hfx) ?_)
 rintro v l' ⟨rfl, rfl⟩
 rw [hox]
 have e1 := eqSS x a
 have e2 := eqSS x b
 rw [decide_eq_false hxa] at e1
 rw [decide_eq_false hxb] at e2
 obtain ⟨A, c, rfl, hsrc, hc⟩ := ho.src (W := W)
 repeat (first | refine JLp (y_eqlS rfl rfl e1) ?_ | refine JLp (y_eqlS rfl rfl e2) ?_ | refine AS0 ?_)
 refine JLs (e_call rfl rfl (ContainsS_ok (xs := ls) x rfl (by omega) (hsrc.mono fun e he => List.mem_append_left _ he)) ?_)
 rintro v l' ⟨rfl, rfl⟩
 rw [decide_eq_false hx]
 refine AU0 ?_
 refine JLs (e_buildSlice (cells := [sv x]) [sv x] rfl lE_ rfl (fun u hu => by cases List.mem_singleton.1 hu; rfl) rfl fun bn => ?_)
 refine JLs (e_appendP [_] le rfl rfl ho rfl (news := [sv x]) rfl (Src.whole (List.mem_cons_self ..)) (fun u hu => by cases List.mem_singleton.1 hu; rfl) (by omega) (by unfold maxLen; omega) fun v' le' ho' _ => ?_)
 refine JL.sub (l' := le' ++ l) (List.sublist_cons_self _ _) ?_
 obtain ⟨A', c', rfl, hsrc', hc'⟩ := ho'.src (W := W)
 refine JLs (e_call rfl rfl (Compress_ok (ls := ls ++ [x]) hp (by rw [List.length_append, List.length_singleton]) (by rw [List.map_append]; exact hsrc'.mono fun e he => List.mem_append_left _ he)) ?_)
 rintro v l' ⟨rfl, rfl⟩
 refine AU0 ?_
 exact JC.sub (List.sublist_append_right _ _) (JC.ret (RT.two rfl rfl rfl rfl ⟨rfl, rfl⟩))
end Go.Proofs.YtbalcgjphkdecaaGreatDoor.To
namespace Go.Proofs.YtbalcgjphkdecaaGreatDoor.To
open Go.RowKit Go.Lg
set_option maxRecDepth 100000
structure Pt where
 fr : S
 to_ : S
 via : List S
structure Topo where
 rs : List S
 ls : List P2
 ps : List Pt
def enc3 (x : Pt × Value) : List Value := [sv x.1.fr, sv x.1.to_, x.2]
theorem enc3_len (x : Pt × Value) : (enc3 x).length = 3 := rfl
def pt3 (x : Pt × Value) : Value := .agg (enc3 x).toArray
def SlV (W : World) (r : List Ent) (A : Option Addr) (n c : Nat) (xs : List Value) : Prop := Src W r A xs ∧ n ≤ c ∧ (A = none → n = 0 ∧ c = 0)
theorem SlV.mono {W : World} {r r' : List Ent} {A : Option Addr} {n c : Nat} {xs : List Value} (h : SlV W r A n c xs) (hr : ∀ e ∈ r, e ∈ r') : SlV W r' A n c xs := ⟨h.1.mono hr, h.2⟩
theorem SlV.own {W : World} {e : TypeId} {sz n : Nat} {v : Value} {xs : List Value} {le : List Ent} (h : Lg.Own e sz v n xs le) : ∃ A c, v = .slice A n c ∧ SlV W le A n c xs := by
 rcases h.2 with ⟨rfl, rfl, rfl⟩ | ⟨g, cap, rfl, h1, _, rfl⟩
 ·have : xs = [] := List.eq_nil_of_length_eq_zero (by simpa using h.1)
  exact ⟨none, 0, rfl, .inl this, Nat.le_refl _, fun _ => ⟨rfl, rfl⟩⟩
 ·exact ⟨_, cap, rfl, Src.whole (List.mem_singleton.2 rfl), h1, fun h => by cases h⟩
def ViaV (W : World) (r : List Ent) (x : Pt × Value) : Prop := ∃ A c, x.2 = .slice A x.1.via.length c ∧ SlV W r A x.1.via.length c (x.1.via.map sv)
def TopoV (W : World) (r : List Ent) (vs : List Value) (T : Topo) : Prop := ∃ A1 c1 A2 c2 A3 c3, ∃ xs : List (Pt × Value), vs = [.slice A1 T.rs.length c1, .slice A2 T.ls.length c2, .slice A3 xs.length c3] ∧ xs.map (·.1) = T.ps ∧
 SlV W r A1 T.rs.length c1 (T.rs.map sv) ∧ SlV W r A2 T.ls.length c2 (T.ls.flatMap enc2) ∧ SlV W r A3 xs.length c3 (xs.flatMap enc3) ∧ ∀ x ∈ xs, ViaV W r x
theorem TopoV.mono {W : World} {r r' : List Ent} {vs : List Value} {T : Topo} (h : TopoV W r vs T) (hr : ∀ e ∈ r, e ∈ r') : TopoV W r' vs T := by
 obtain ⟨A1, c1, A2, c2, A3, c3, xs, rfl, h1, h2, h3, h4, h5⟩ := h
 exact ⟨A1, c1, A2, c2, A3, c3, xs, rfl, h1, h2.mono hr, h3.mono hr, h4.mono hr, fun x hx => by obtain ⟨A, c, h6, h7⟩ := h5 x hx; exact ⟨A, c, h6, h7.mono hr⟩⟩
def pathOk (rs : List S) (p : Pt) : Bool := decide (p.fr ∈ rs) && decide (p.to_ ∈ rs) && decide (p.fr ≠ p.to_) && decide (p.via.length ≤ 4) && decide p.via.Nodup && p.via.all fun v => decide (v ∈ rs) && decide (v ≠ p.fr) && decide (v ≠ p.to_)
theorem pathOk_spec {rs : List S} {p : Pt} (h : pathOk rs p = true) : p.fr ∈ rs ∧ p.to_ ∈ rs ∧ p.fr ≠ p.to_ ∧ p.via.length ≤ 4 ∧ p.via.Nodup ∧ ∀ v ∈ p.via, v ∈ rs ∧ v ≠ p.fr ∧ v ≠ p.to_ := by
 simp only [pathOk, Bool.and_eq_true, decide_eq_true_eq, List.all_eq_true] at h
 obtain ⟨⟨⟨⟨⟨h1, h2⟩, h3⟩, h4⟩, h5⟩, h6⟩ := h
 exact ⟨h1, h2, h3, h4, h5, fun v hv => ⟨(h6 v hv).1.1, (h6 v hv).1.2, (h6 v hv).2⟩⟩
def topoOk (T : Topo) : Bool := decide (0 < T.rs.length) && decide (T.rs.length ≤ 6) && decide T.rs.Nodup && T.rs.all (fun r => fit r && okR r) &&
 decide (T.ls.length ≤ 20) && decide T.ls.Nodup && T.ls.all (fun p => decide (p.1 ∈ T.rs) && decide (p.2 ∈ T.rs) && decide (p.1 ≠ p.2)) &&
 decide (T.ps.length ≤ 8) && T.ps.all (pathOk T.rs) && decide (T.ps.map fun p => (p.fr, p.to_)).Nodup
theorem topoOk_spec {T : Topo} (h : topoOk T = true) : 0 < T.rs.length ∧ T.rs.length ≤ 6 ∧ T.rs.Nodup ∧ (∀ r ∈ T.rs, fit r = true ∧ okR r = true) ∧ T.ls.length ≤ 20 ∧ T.ls.Nodup ∧ (∀ p ∈ T.ls, p.1 ∈ T.rs ∧ p.2 ∈ T.rs ∧ p.1 ≠ p.2) ∧
  T.ps.length ≤ 8 ∧ (∀ p ∈ T.ps, pathOk T.rs p = true) ∧ (T.ps.map fun p => (p.fr, p.to_)).Nodup := by
 simp only [topoOk, Bool.and_eq_true, decide_eq_true_eq, List.all_eq_true] at h
 obtain ⟨⟨⟨⟨⟨⟨⟨⟨⟨h1, h2⟩, h3⟩, h4⟩, h5⟩, h6⟩, h7⟩, h8⟩, h9⟩, h10⟩ := h
 exact ⟨h1, h2, h3, h4, h5, h6, fun p hp => ⟨(h7 p hp).1.1, (h7 p hp).1.2, (h7 p hp).2⟩, h8, h9, h10⟩
theorem not_before {α : Type} {xs : List α} (h : xs.Nodup) {i : Nat} (hi : i < xs.length) : xs[i]'hi ∉ xs.take i := fun hin => by
 have hst : xs.take (i + 1) = xs.take i ++ [xs[i]'hi] := List.take_succ_eq_append_getElem hi
 rw [← List.take_append_drop (i + 1) xs, hst, List.append_assoc, List.nodup_append] at h
 exact h.2.2 _ hin _ (List.mem_append_left _ (List.mem_singleton.2 rfl)) rfl
theorem row_take {α : Type} (enc : α → List Value) {sz : Nat} (he : ∀ x, (enc x).length = sz) : ∀ (xs : List α) (i : Nat), (xs.take i).flatMap enc = (xs.flatMap enc).take (i * sz)
 | [], i => by simp
 | x :: xs, 0 => by simp
 | x :: xs, i + 1 => by
  rw [List.take_succ_cons, List.flatMap_cons, List.flatMap_cons, row_take enc he xs i, List.take_append, he, List.take_of_length_le (l := enc x) (by rw [he, Nat.succ_mul]; omega)]
  congr 2
  rw [Nat.succ_mul]; omega
attribute [local irreducible] JC JL JD RN RT Eff Yld YldIf Tr partsL okR splitL wordB joinD fit
theorem isTwiceS_no {A : Option Addr} {n c : Nat} {xs : List S} {W : World} {r : List Ent} (hn : xs.length = n) (hm : n ≤ 1000000) (hs : SlV W r A n c (xs.map sv)) (hd : xs.Nodup) :
  Tr Pg 61 #[.slice A n c] W r fun v l' => v = .bool false ∧ l' = r := by
 refine Tr.of_code (args := [_]) Tryz.func61 rfl Tryz.ntmps61 lE_ ?_
 refine AU0 ?_
 refine JC.loop (fun m f l => ∃ i, i + m = n ∧ FrOk f [(0, .slice A n c), (5, .slice A n c), (6, .int .i64 (n : Int)), (7, .int .i64 (i : Int))] ∧ l = r) n ?_ ?_
 ·exact ⟨0, by omega, ⟨rfl, rfl, rfl, rfl, trivial⟩, rfl⟩
 rintro m f l ⟨i, hmi, hf, rfl⟩
 refine JC.frame _ hf fun f' => ?_
 by_cases hi : i < n
 ·have hi' : i < xs.length := by omega
  obtain ⟨b, o, rfl, hc⟩ := hs.1.at_ (by simp; omega)
  have hy := List.getElem?_eq_getElem hi'
  have hcap := hs.2.1
  have htl : (xs.take i).length = i := by rw [List.length_take]; omega
  refine AU0 ?_
  refine JLs (e_loadS (u := sv (xs[i]'hi')) rfl (fun w hw => by rw [Nat.mul_one]; exact hc l (fun _ h => h) w hw i _ (by simp [hy])) ?_)
  repeat (first | refine JLp (y_sliceTo (h := i) rfl rfl (by omega)) ?_ | refine AS0 ?_)
  refine JLs (e_call rfl rfl (ContainsS_ok (xs := xs.take i) (xs[i]'hi') htl (by omega) (by rw [List.map_take]; exact hs.1.take i)) ?_)
  rintro v l' ⟨rfl, rfl⟩
  rw [decide_eq_false (not_before hd hi')]
  refine AU0 ?_
  exact RN.loop (m' := m - 1) (by omega) ⟨i + 1, by omega, ⟨rfl, rfl, rfl, rfl, trivial⟩, rfl⟩
 ·obtain rfl : n = i := by omega
  refine AU0 ?_
  exact JC.ret (RT.one rfl rfl rfl ⟨rfl, rfl⟩)
set_option maxHeartbeats 1000000 in
theorem isTwiceL_no {A : Option Addr} {n c : Nat} {xs : List P2} {W : World} {r : List Ent} (hn : xs.length = n) (hm : n ≤ 1000000) (hs : SlV W r A n c (xs.flatMap enc2)) (hd : xs.Nodup) :
  Tr Pg 62 #[.slice A n c] W r fun v l' => v = .bool false ∧ l' = r := by
 refine Tr.of_code (args := [_]) Tryz.func62 rfl Tryz.ntmps62 lE_ ?_
 refine AU0 ?_
 refine JC.loop (fun m f l => ∃ i, i + m = n ∧ FrOk f [(0, .slice A n c), (5, .slice A n c), (6, .int .i64 (n : Int)), (7, .int .i64 (i : Int))] ∧ l = r) n ?_ ?_
 ·exact ⟨0, by omega, ⟨rfl, rfl, rfl, rfl, trivial⟩, rfl⟩
 rintro m f l ⟨i, hmi, hf, rfl⟩
 refine JC.frame _ hf fun f' => ?_
 by_cases hi : i < n
 ·have hi' : i < xs.length := by omega
  obtain ⟨b, o, rfl, hc⟩ := hs.1.at_ (by rw [row_len enc2 enc2_len]; omega)
  have hy := List.getElem?_eq_getElem hi'
  have hcap := hs.2.1
  have htl : (xs.take i).length = i := by rw [List.length_take]; omega
  refine AU0 ?_
  refine JLs (e_loadSA (cs := enc2 (xs[i]'hi')) rfl (Src.elem enc2 enc2_len hc (fun _ h => h) hy) ?_)
  refine JLs (e_alloc fun b4 => ?_)
  refine AU1 ?_
  refine JLs (e_store 0 rfl rfl rfl (vs := enc2 (xs[i]'hi')) rfl rfl rfl lE_ ?_)
  refine JL.cast (l' := (b4, isC 44 (enc2 (xs[i]'hi'))) :: l) (by rfl) ?_
  refine AU1 ?_
  refine JC.drawn 5 rfl mixed ?_
  refine JDp 0 rfl y_mv ?_
  refine JDp 1 rfl y_mv ?_
  refine JDp 2 rfl (y_sliceTo (h := i) rfl rfl (by omega)) ?_
  refine JDr 3 0 rfl rfl (r_loadW rfl rfl) ?_
  refine JDe 4 rfl (e_call rfl rfl (ContainsL_ok (xs := xs.take i) (xs[i]'hi') htl (by omega) (by rw [row_take enc2 enc2_len]; exact (hs.1.take _).mono fun e he => List.mem_cons_of_mem _ he)) ?_)
  rintro v l' ⟨rfl, rfl⟩
  rw [decide_eq_false (not_before hd hi')]
  refine ⟨tok_, JD.done (by kernel_rfl) (RN.sub (List.sublist_cons_self _ _) ?_)⟩
  refine AU0 ?_
  exact RN.loop (m' := m - 1) (by omega) ⟨i + 1, by omega, ⟨rfl, rfl, rfl, rfl, trivial⟩, rfl⟩
 ·obtain rfl : n = i := by omega
  refine AU0 ?_
  exact JC.ret (RT.one rfl rfl rfl ⟨rfl, rfl⟩)
theorem viaBad_ok {bt bp : Nat} {T : Topo} {A1 A2 : Option Addr} {c1 c2 : Nat} {v3 : Value} {x : Pt × Value} {s : S} {W : World} {l : List Ent} (i j : Nat) (ht : l[i]? = some (bt, isC 43 [.slice A1 T.rs.length c1, .slice A2 T.ls.length c2, v3])) (hp : l[j]? = some (bp, isC 39 (enc3 x)))
  (h1 : SlV W l A1 T.rs.length c1 (T.rs.map sv)) (hm : T.rs.length ≤ 6) (hin : s ∈ T.rs) (hf : s ≠ x.1.fr) (ho : s ≠ x.1.to_) :
  Tr Pg 104 #[sv s, ptr bt, ptr bp] W l fun v l' => v = .bool false ∧ l' = l := by
 have e1 := eqSS s x.1.fr
 have e2 := eqSS s x.1.to_
 rw [decide_eq_false hf] at e1
 rw [decide_eq_false ho] at e2
 refine Tr.of_code (args := [_, _, _]) Tryz.func104 rfl Tryz.ntmps104 lE_ ?_
 refine AU0 ?_
 refine JL.read i ht rfl (r_load1 rfl rfl) ?_
 refine AU0 ?_
 refine JLs (e_call rfl rfl (ContainsS_ok (xs := T.rs) s rfl (by omega) h1.1) ?_)
 rintro v l' ⟨rfl, rfl⟩
 rw [decide_eq_true hin]
 refine AU0 ?_
 refine JL.read j hp rfl (r_load1 rfl rfl) ?_
 repeat (first | refine JLp (y_eqlS rfl rfl e1) ?_ | refine AS0 ?_)
 refine JL.read j hp rfl (r_load1 rfl rfl) ?_
 repeat (first | refine JLp (y_eqlS rfl rfl e2) ?_ | refine AS0 ?_)
 exact JC.ret (RT.one rfl rfl rfl ⟨rfl, rfl⟩)
set_option maxHeartbeats 1000000 in
theorem isPath_yes {T : Topo} {vs : List Value} {x : Pt × Value} {W : World} {l : List Ent} (hT : TopoV W l vs T) (hm : T.rs.length ≤ 6) (hx : ViaV W l x) (hok : pathOk T.rs x.1 = true) :
  Tr Pg 63 #[.agg vs.toArray, pt3 x] W l fun v l' => v = .bool true ∧ l' = l := by
 obtain ⟨A1, c1, A2, c2, A3, c3, xs, rfl, -, h1, h2, h3, h4⟩ := hT
 obtain ⟨A, c, hxv, h5⟩ := hx
 obtain ⟨p1, p2, p3, p4, p5, p6⟩ := pathOk_spec hok
 have hc : enc3 x = [sv x.1.fr, sv x.1.to_, .slice A x.1.via.length c] := by unfold enc3; rw [hxv]
 refine Tr.of_code (args := [_, _]) Tryz.func63 rfl Tryz.ntmps63 lE_ ?_
 refine AU0 ?_
 refine JLs (e_box (cs := [.slice A1 T.rs.length c1, .slice A2 T.ls.length c2, .slice A3 xs.length c3]) rfl rfl fun bt => ?_)
 refine JLs (e_box (cs := enc3 x) rfl rfl fun bp => ?_)
 have hbad : ∀ s ∈ x.1.via, Tr Pg 104 #[sv s, ptr bt, ptr bp] W ((bp, isC 39 (enc3 x)) :: (bt, isC 43 [.slice A1 T.rs.length c1, .slice A2 T.ls.length c2, .slice A3 xs.length c3]) :: l) fun v l' => v = .bool false ∧ l' = (bp, isC 39 (enc3 x)) :: (bt, isC 43 [.slice A1 T.rs.length c1, .slice A2 T.ls.length c2, .slice A3 xs.length c3]) :: l := fun s hs =>
  viaBad_ok 1 0 rfl rfl (h1.mono fun e he => by simp [he]) hm (p6 s hs).1 (p6 s hs).2.1 (p6 s hs).2.2
 rw [hc] at hbad ⊢
 have e3 := eqSS x.1.fr x.1.to_
 rw [decide_eq_false p3] at e3
 have e3' : (!((ba x.1.fr).toList == (ba x.1.to_).toList)) = true := by rw [e3]; rfl
 repeat (first | refine JLp (y_makeFunc (v := .func (.func 104) #[] #[ptr bt, ptr bp]) (by simp only [List.map_toArray, List.map_cons, List.map_nil]; rfl)) ?_ | refine AS2 ?_)
 refine JLs (e_call rfl rfl (ContainsS_ok (xs := T.rs) x.1.fr rfl (by omega) (h1.1.mono fun e he => by simp [he])) ?_)
 rintro v l' ⟨rfl, rfl⟩
 rw [decide_eq_true p1]
 refine AU2 ?_
 refine JLs (e_call rfl rfl (ContainsS_ok (xs := T.rs) x.1.to_ rfl (by omega) (h1.1.mono fun e he => by simp [he])) ?_)
 rintro v l' ⟨rfl, rfl⟩
 rw [decide_eq_true p2]
 have h4' : decide ((x.1.via.length : Int) ≤ 4) = true := decide_eq_true (by omega)
 repeat (first | refine JLp (y_neqS rfl rfl e3') ?_ | refine JLp (y_leq rfl rfl h4') ?_ | refine AS2 ?_)
 refine JLs (e_call rfl rfl (isTwiceS_no (xs := x.1.via) rfl (by omega) (h5.mono fun e he => by simp [he]) p5) ?_)
 rintro v l' ⟨rfl, rfl⟩
 refine AU2 ?_
 refine JLs (e_call rfl rfl (ContainsFuncS_ok (xs := x.1.via) (cap := #[ptr bt, ptr bp]) (fun _ => false) inferInstance rfl (by omega) (by rw [flat1]; exact h5.1.mono fun e he => by simp [he]) hbad) ?_)
 rintro v l' ⟨rfl, rfl⟩
 have hnone : (x.1.via.any fun _ => false) = false := by simp
 rw [hnone]
 refine AU2 ?_
 exact JC.sub (List.sublist_append_right [_, _] l) (JC.ret (RT.one rfl rfl rfl ⟨rfl, rfl⟩))
end Go.Proofs.YtbalcgjphkdecaaGreatDoor.To
namespace Go.Proofs.YtbalcgjphkdecaaGreatDoor.To
open Go.RowKit Go.Lg
set_option maxRecDepth 100000
attribute [local irreducible] JC JL JD RN RT Eff Yld YldIf Tr partsL okR splitL wordB joinD fit betweenS
theorem linkBad_ok {bt : Nat} {T : Topo} {A1 A2 : Option Addr} {c1 c2 : Nat} {v3 : Value} {p : P2} {W : World} {l : List Ent} (i : Nat) (ht : l[i]? = some (bt, isC 43 [.slice A1 T.rs.length c1, .slice A2 T.ls.length c2, v3]))
  (h1 : SlV W l A1 T.rs.length c1 (T.rs.map sv)) (hm : T.rs.length ≤ 6) (hp : p.1 ∈ T.rs ∧ p.2 ∈ T.rs ∧ p.1 ≠ p.2) :
  Tr Pg 64 #[pv p, ptr bt] W l fun v l' => v = .bool false ∧ l' = l := by
 have e1 := eqSS p.1 p.2
 rw [decide_eq_false hp.2.2] at e1
 refine Tr.of_code (args := [_, _]) Tryz.func64 rfl Tryz.ntmps64 lE_ ?_
 refine AU0 ?_
 refine JLs (e_box (cs := enc2 p) rfl rfl fun bp => ?_)
 have ht' : ((bp, isC 44 (enc2 p)) :: l)[i + 1]? = some (bt, isC 43 [.slice A1 T.rs.length c1, .slice A2 T.ls.length c2, v3]) := ht
 refine AU0 ?_
 refine JL.read (i + 1) ht' rfl (r_load1 rfl rfl) ?_
 repeat (first | refine JLp (y_indexA (j := 0) rfl rfl (by omega)) ?_ | refine AS1 ?_)
 refine JLs (e_call rfl rfl (ContainsS_ok (xs := T.rs) p.1 rfl (by omega) (h1.1.mono fun e he => List.mem_cons_of_mem _ he)) ?_)
 rintro v l' ⟨rfl, rfl⟩
 rw [decide_eq_true hp.1]
 refine AU0 ?_
 refine JL.read (i + 1) ht' rfl (r_load1 rfl rfl) ?_
 repeat (first | refine JLp (y_indexA (j := 1) rfl rfl (by omega)) ?_ | refine AS1 ?_)
 refine JLs (e_call rfl rfl (ContainsS_ok (xs := T.rs) p.2 rfl (by omega) (h1.1.mono fun e he => List.mem_cons_of_mem _ he)) ?_)
 rintro v l' ⟨rfl, rfl⟩
 rw [decide_eq_true hp.2.1]
 repeat (first | refine JLp (y_indexA (j := 0) rfl rfl (by omega)) ?_ | refine AS1 ?_)
 repeat (first | refine JLp (y_indexA (j := 1) rfl rfl (by omega)) ?_ | refine JLp (y_eqlS rfl rfl e1) ?_ | refine AS1 ?_)
 exact JC.sub (List.sublist_cons_self _ l) (JC.ret (RT.one rfl rfl rfl ⟨rfl, rfl⟩))
theorem realmBad_ok {r : S} (hf : fit r = true) {W : World} {l : List Ent} : Tr Pg 68 #[.string (ba r)] W l fun v l' => v = .bool (!okR r) ∧ l' = l := by
 refine Tr.of_code (args := [_]) Tryz.func68 rfl Tryz.ntmps68 lE_ ?_
 refine AU0 ?_
 refine JLs (e_call rfl rfl (Is_ok hf) ?_)
 rintro v l' ⟨rfl, rfl⟩
 refine AU0 ?_
 exact JC.ret (RT.one rfl rfl rfl ⟨rfl, rfl⟩)
def endsP (p : Pt) : P2 := (p.fr, p.to_)
set_option maxHeartbeats 4000000 in
theorem RIs_yes {T : Topo} {vs : List Value} {W : World} {l : List Ent} (hT : TopoV W l vs T) (hok : topoOk T = true) :
  Tr Pg 30 #[.agg vs.toArray] W l fun v l' => v = .bool true ∧ l' = l := by
 have hT' := hT
 obtain ⟨A1, c1, A2, c2, A3, c3, xs, rfl, hxs, h1, h2, h3, h4⟩ := hT
 obtain ⟨k1, k2, k3, k4, k5, k6, k7, k8, k9, k10⟩ := topoOk_spec hok
 have hxl : xs.length = T.ps.length := by rw [← hxs, List.length_map]
 have q1 : decide ((T.rs.length : Int) = 0) = false := decide_eq_false (by omega)
 have q2 : decide ((6 : Int) < (T.rs.length : Int)) = false := decide_eq_false (by omega)
 have q3 : decide ((20 : Int) < (T.ls.length : Int)) = false := decide_eq_false (by omega)
 have q4 : decide ((8 : Int) < (xs.length : Int)) = false := decide_eq_false (by omega)
 refine Tr.of_code (args := [_]) Tryz.func30 rfl Tryz.ntmps30 lE_ ?_
 refine AU0 ?_
 refine JLs (e_box (cs := [.slice A1 T.rs.length c1, .slice A2 T.ls.length c2, .slice A3 xs.length c3]) rfl rfl fun bt => ?_)
 repeat (first | refine JLp (y_eql rfl rfl q1) ?_ | refine JLp (y_gtr rfl rfl q2) ?_ | refine AS1 ?_)
 refine JLs (e_call rfl rfl (isTwiceS_no (xs := T.rs) rfl (by omega) (h1.mono fun e he => List.mem_cons_of_mem _ he) k3) ?_)
 rintro v l' ⟨rfl, rfl⟩
 repeat (first | refine JLp (y_gtr rfl rfl q3) ?_ | refine AS1 ?_)
 refine JLs (e_call rfl rfl (isTwiceL_no (xs := T.ls) rfl (by omega) (h2.mono fun e he => List.mem_cons_of_mem _ he) k6) ?_)
 rintro v l' ⟨rfl, rfl⟩
 repeat (first | refine JLp (y_gtr rfl rfl q4) ?_ | refine AS1 ?_)
 refine JC.cutb (fun f l' => ∃ v le, FrOk f [(1, ptr bt), (3, v)] ∧ Lg.Own 44 2 v (xs.length) ((xs.map fun x => endsP x.1).flatMap enc2) le ∧ l' = (bt, isC 43 [.slice A1 T.rs.length c1, .slice A2 T.ls.length c2, .slice A3 xs.length c3]) :: (le ++ l)) ?_ fun K' hK => ?_
 rotate_left
 ·refine JC.loop (fun m f l' => ∃ i v le, i + m = xs.length ∧ FrOk f [(1, ptr bt), (3, v), (40, .slice A3 xs.length c3), (41, .int .i64 (xs.length : Int)), (42, .int .i64 (i : Int))] ∧ Lg.Own 44 2 v i (((xs.map fun x => endsP x.1).take i).flatMap enc2) le ∧ l' = (bt, isC 43 [.slice A1 T.rs.length c1, .slice A2 T.ls.length c2, .slice A3 xs.length c3]) :: (le ++ l)) xs.length ?_ ?_
  ·exact ⟨0, _, [], by omega, ⟨rfl, rfl, rfl, rfl, rfl, trivial⟩, Lg.Own.nil _ _, rfl⟩
  rintro m f l' ⟨i, v, le, hmi, hf, ho, rfl⟩
  refine JC.frame _ hf fun f' => ?_
  by_cases hi : i < xs.length
  ·obtain ⟨b, o, rfl, hc⟩ := h3.1.at_ (by rw [row_len enc3 enc3_len]; omega)
   have hy := List.getElem?_eq_getElem hi
   have hmem := List.getElem_mem hi
   have hpo : pathOk T.rs (xs[i]'hi).1 = true := k9 _ (by rw [← hxs]; exact List.mem_map_of_mem hmem)
   have hst : ((xs.map fun x => endsP x.1).take (i + 1)).flatMap enc2 = ((xs.map fun x => endsP x.1).take i).flatMap enc2 ++ enc2 (endsP (xs[i]'hi).1) := by
    rw [List.take_succ_eq_append_getElem (by simpa using hi), List.flatMap_append, List.getElem_map, List.flatMap_singleton]
   refine AU0 ?_
   refine JLs (e_loadSA (cs := enc3 (xs[i]'hi)) rfl (Src.elem enc3 enc3_len hc (fun _ h => List.mem_cons_of_mem _ (List.mem_append_right _ h)) hy) ?_)
   refine JLs (e_alloc fun b5 => ?_)
   refine AU1 ?_
   refine JLs (e_store 0 rfl rfl rfl (vs := enc3 (xs[i]'hi)) rfl ?_ ?_ lE_ ?_)
   ·rfl
   ·obtain ⟨A, c, hxv, h5⟩ := h4 _ hmem
    unfold enc3
    rw [hxv]
    rfl
   refine JL.cast (l' := (b5, isC 39 (enc3 (xs[i]'hi))) :: _ :: (le ++ l)) (by rfl) ?_
   refine AU1 ?_
   refine JL.read 1 rfl rfl (r_loadW rfl rfl) ?_
   refine JL.read 0 rfl rfl (r_loadW rfl rfl) ?_
   refine JLs (e_call rfl rfl (isPath_yes (x := xs[i]'hi) (hT'.mono fun e he => by simp [he]) k2 (by
    obtain ⟨A, c, hxv, h5⟩ := h4 _ hmem
    exact ⟨A, c, hxv, h5.mono fun e he => by simp [he]⟩) hpo) ?_)
   rintro v1 l1 ⟨rfl, rfl⟩
   repeat (first | refine JLp (y_build (cells := (enc2 (endsP (xs[i]'hi).1)).toArray) rfl) ?_ | refine AS1 ?_)
   refine JLs (e_buildSlice (cells := enc2 (endsP (xs[i]'hi).1)) [pv (endsP (xs[i]'hi).1)] rfl lE_ rfl (fun u hu => by cases List.mem_singleton.1 hu; rfl) rfl fun bn => ?_)
   refine JLs (e_appendP [_, _, _] le rfl rfl ho rfl (news := enc2 (endsP (xs[i]'hi).1)) rfl (Src.whole (List.mem_cons_self ..)) (fun u hu => enc2_one [endsP (xs[i]'hi).1] u (by simpa using hu)) (by omega) (by unfold maxLen; omega) fun v' le' ho' _ => ?_)
   refine JL.sub (l' := _ :: (le' ++ l)) (List.sublist_append_right [_, _] _) ?_
   refine AU0 ?_
   exact RN.loop (m' := m - 1) (by omega) ⟨i + 1, v', le', by omega, ⟨rfl, rfl, rfl, rfl, rfl, trivial⟩, by rw [hst]; exact ho', rfl⟩
  ·obtain rfl : xs.length = i := by omega
   rw [List.take_of_length_le (by simp)] at ho
   refine AU0 ?_
   exact hK _ _ ⟨v, le, ⟨rfl, rfl, trivial⟩, ho, rfl⟩
 rintro f l' ⟨v, le, hf, ho, rfl⟩
 refine RN.frame _ hf fun f' => ?_
 have hnd : (xs.map fun x => endsP x.1).Nodup := by
  have : (xs.map fun x => endsP x.1) = T.ps.map fun p => (p.fr, p.to_) := by rw [← hxs, List.map_map]; rfl
  rw [this]; exact k10
 obtain ⟨A, c, rfl, hsl⟩ := SlV.own (W := W) ho
 repeat (first | refine JLp (y_makeFunc (v := .func (.func 64) #[] #[ptr bt]) (by simp only [List.map_toArray, List.map_cons, List.map_nil]; rfl)) ?_ | refine AS0 ?_)
 refine JLs (e_call rfl rfl (isTwiceL_no (by rw [List.length_map]) (by omega) (hsl.mono fun e he => by simp [he]) hnd) ?_)
 rintro v l' ⟨rfl, rfl⟩
 refine AU1 ?_
 refine JLs (e_call rfl rfl (ContainsFuncL_ok (xs := T.ls) (cap := #[ptr bt]) (fun _ => false) inferInstance rfl (by omega) (h2.1.mono fun e he => by simp [he]) (fun p hp => linkBad_ok 0 rfl (h1.mono fun e he => by simp [he]) k2 (k7 p hp))) ?_)
 rintro v l' ⟨rfl, rfl⟩
 have hnone : (T.ls.any fun _ => false) = false := by simp
 rw [hnone]
 refine AU1 ?_
 refine JLs (e_call rfl rfl (ContainsFuncS_ok (g := 68) (xs := T.rs) (cap := #[]) (fun r => !okR r) inferInstance rfl (by omega) (by rw [flat1]; exact h1.1.mono fun e he => by simp [he]) (fun r hr => realmBad_ok (k4 r hr).1)) ?_)
 rintro v l' ⟨rfl, rfl⟩
 have hno : (T.rs.any fun r => !okR r) = false := by
  rw [Bool.eq_false_iff]
  intro h
  obtain ⟨x, hx, hy⟩ := List.any_eq_true.1 h
  rw [(k4 x hx).2] at hy
  cases hy
 rw [hno]
 refine AU1 ?_
 exact JC.sub (List.Sublist.cons _ (List.sublist_append_right _ l)) (JC.ret (RT.one rfl rfl rfl ⟨rfl, rfl⟩))
end Go.Proofs.YtbalcgjphkdecaaGreatDoor.To
namespace Go.Proofs.YtbalcgjphkdecaaGreatDoor.To
open Go.RowKit Go.Lg
set_option maxRecDepth 100000
attribute [local irreducible] JC JL JD RN RT Eff Yld YldIf Tr partsL okR splitL wordB joinD fit betweenS
theorem IndexFuncW_ok {g : FuncId} {cap : Array Value} {A : Option Addr} {n c : Nat} {xs : List (Pt × Value)} (p : (Pt × Value) → Bool) {W : World} {r : List Ent} (hg : FnT Pg g) (hn : xs.length = n) (hm : n ≤ 1000000) (hs : Src W r A (xs.flatMap enc3))
     (hp : ∀ x ∈ xs, Tr Pg g (pt3 x :: cap.toList).toArray W r fun v l' => v = .bool (p x) ∧ l' = r) :
     Tr Pg 263 #[.slice A n c, .func (.func g) #[] cap] W r fun v l' => v = .int .i64 (idxF p xs 0) ∧ l' = r := by
   refine Tr.of_code (args := [_, _]) Tryz.func263 rfl Tryz.ntmps263 lE_ ?_
   refine AU0 ?_
   refine JC.loop (fun m f l => ∃ i, i + m = n ∧ FrOk f [(0, .slice A n c), (1, .func (.func g) #[] cap), (7, .int .i64 (n : Int)), (8, .int .i64 (i : Int))] ∧ (∀ j y, j < i → xs[j]? = some y → p y = false) ∧ l = r) n ?_ ?_
   · exact ⟨0, by omega, ⟨rfl, rfl, rfl, rfl, trivial⟩, fun j y h => absurd h (Nat.not_lt_zero _), rfl⟩
   rintro m f l ⟨i, hmi, hf, hno, rfl⟩
   refine JC.frame _ hf fun f' => ?_
   by_cases hi : i < n
   · have hi' : i < xs.length := by omega
     obtain ⟨b, o, rfl, hc⟩ := hs.at_ (by rw [row_len enc3 enc3_len]; omega)
     have hy := List.getElem?_eq_getElem hi'
     refine AU0 ?_
     refine JLs (e_loadSA (cs := enc3 (xs[i]'hi')) rfl (Src.elem enc3 enc3_len hc (fun _ h => h) hy) ?_)
     refine JLs (e_call rfl rfl (hp _ (List.getElem_mem hi')) ?_)
     rintro v l' ⟨rfl, rfl⟩
     by_cases hx : p (xs[i]'hi') = true
     · rw [hx]
       refine AU0 ?_
       refine JC.ret (RT.one rfl rfl (by conv => lhs; whnf) ⟨?_, rfl⟩)
       rw [idxF_at _ xs 0 i _ hy hx hno, Nat.zero_add]
     · rw [Bool.eq_false_iff.2 hx]
       refine AU0 ?_
       refine RN.loop (m' := m - 1) (by omega) ⟨i + 1, by omega, ⟨rfl, rfl, rfl, rfl, trivial⟩, fun j y hj hjy => ?_, rfl⟩
       by_cases hji : j = i
       · subst hji
         rw [hy] at hjy
         cases hjy
         exact Bool.eq_false_iff.2 hx
       · exact hno j y (by omega) hjy
   · obtain rfl : n = i := by omega
     refine AU0 ?_
     refine JC.ret (RT.one rfl rfl (by conv => lhs; whnf) ⟨?_, rfl⟩)
     rw [idxF_none _ xs 0 fun j y hy => hno j y (by have := (List.getElem?_eq_some_iff.1 hy).1; omega) hy]
theorem Linked_ok {T : Topo} {vs : List Value} {a b : S} {W : World} {l : List Ent} (hT : TopoV W l vs T) (hm : T.ls.length ≤ 20) :
  Tr Pg 243 #[.agg vs.toArray, .string (ba a), .string (ba b)] W l fun v l' => v = .bool (decide ((a, b) ∈ T.ls)) ∧ l' = l := by
 obtain ⟨A1, c1, A2, c2, A3, c3, xs, rfl, hxs, h1, h2, h3, h4⟩ := hT
 refine Tr.of_code (args := [_, _, _]) Tryz.func243 rfl Tryz.ntmps243 lE_ ?_
 refine AU0 ?_
 refine JLs (e_box (cs := [.slice A1 T.rs.length c1, .slice A2 T.ls.length c2, .slice A3 xs.length c3]) rfl rfl fun bt => ?_)
 repeat (first | refine JLp (y_build (cells := (enc2 (a, b)).toArray) rfl) ?_ | refine AS1 ?_)
 refine JLs (e_call rfl rfl (ContainsL_ok (xs := T.ls) (a, b) rfl (by omega) (h2.1.mono fun e he => List.mem_cons_of_mem _ he)) ?_)
 rintro v l' ⟨rfl, rfl⟩
 refine AU1 ?_
 exact JC.sub (List.sublist_cons_self _ l) (JC.ret (RT.one rfl rfl rfl ⟨rfl, rfl⟩))
def isLaid (a b : S) (p : Pt) : Bool := decide (p.fr = a) && decide (p.to_ = b)
theorem isLaid_ok {b1 b2 : Nat} {a b : S} {x : Pt × Value} (hc : (pt3 x).cells = (enc3 x).toArray) {W : World} {l : List Ent} (i j : Nat) (h1 : l[i]? = some (b1, isC 9 [sv a])) (h2 : l[j]? = some (b2, isC 9 [sv b])) :
  Tr Pg 264 #[pt3 x, ptr b1, ptr b2] W l fun v l' => v = .bool (isLaid a b x.1) ∧ l' = l := by
 have e1 := eqSS x.1.fr a
 have e2 := eqSS x.1.to_ b
 refine Tr.of_code (args := [_, _, _]) Tryz.func264 rfl Tryz.ntmps264 lE_ ?_
 refine AU0 ?_
 refine JLs (e_box (cs := enc3 x) rfl hc fun bp => ?_)
 have h1' : ((bp, isC 39 (enc3 x)) :: l)[i + 1]? = some (b1, isC 9 [sv a]) := h1
 have h2' : ((bp, isC 39 (enc3 x)) :: l)[j + 1]? = some (b2, isC 9 [sv b]) := h2
 refine AU1 ?_
 refine JL.read (i + 1) h1' rfl (r_load1 rfl rfl) ?_
 by_cases ha : x.1.fr = a
 ·rw [decide_eq_true ha] at e1
  repeat (first | refine JLp (y_eqlS rfl rfl e1) ?_ | refine AS1 ?_)
  refine JL.read (j + 1) h2' rfl (r_load1 rfl rfl) ?_
  repeat (first | refine JLp (y_eqlS rfl rfl e2) ?_ | refine AS1 ?_)
  refine JC.sub (List.sublist_cons_self _ l) (JC.ret (RT.one rfl rfl rfl ⟨?_, rfl⟩))
  unfold isLaid
  rw [decide_eq_true ha]
  rfl
 ·rw [decide_eq_false ha] at e1
  repeat (first | refine JLp (y_eqlS rfl rfl e1) ?_ | refine AS1 ?_)
  refine JC.sub (List.sublist_cons_self _ l) (JC.ret (RT.one rfl rfl rfl ⟨?_, rfl⟩))
  unfold isLaid
  rw [decide_eq_false ha]
  rfl
def laidS (T : Topo) (a b : S) : Option (List S) := (T.ps.find? (isLaid a b)).map Pt.via
theorem laidS_eq (T : Topo) (a b : S) : laidS T a b = (T.ps.find? (isLaid a b)).map Pt.via := rfl
set_option maxHeartbeats 1000000 in
theorem laid_ok {T : Topo} {vs : List Value} {a b : S} {W : World} {l : List Ent} (hT : TopoV W l vs T) (hm : T.ps.length ≤ 8) (hv : ∀ p ∈ T.ps, p.via.length ≤ 4) :
  Tr Pg 241 #[.agg vs.toArray, .string (ba a), .string (ba b)] W l fun v l' => ∃ v1 le, v = .tuple #[v1, .bool (laidS T a b).isSome] ∧ Lg.Own 9 1 v1 ((laidS T a b).getD []).length (((laidS T a b).getD []).map sv) le ∧ l' = le ++ l := by
 obtain ⟨A1, c1, A2, c2, A3, c3, xs, rfl, hxs, h1, h2, h3, h4⟩ := hT
 have hxl : xs.length = T.ps.length := by rw [← hxs, List.length_map]
 refine Tr.of_code (args := [_, _, _]) Tryz.func241 rfl Tryz.ntmps241 lE_ ?_
 refine AU0 ?_
 refine JLs (e_box (cs := [.slice A1 T.rs.length c1, .slice A2 T.ls.length c2, .slice A3 xs.length c3]) rfl rfl fun bt => ?_)
 refine JLs (e_box (cs := [sv a]) rfl rfl fun b1 => ?_)
 refine JLs (e_box (cs := [sv b]) rfl rfl fun b2 => ?_)
 repeat (first | refine JLp (y_makeFunc (v := .func (.func 264) #[] #[ptr b1, ptr b2]) (by simp only [List.map_toArray, List.map_cons, List.map_nil]; rfl)) ?_ | refine AS3 ?_)
 refine JLs (e_call rfl rfl (IndexFuncW_ok (xs := xs) (cap := #[ptr b1, ptr b2]) (fun x => isLaid a b x.1) inferInstance rfl (by omega) (h3.1.mono fun e he => by simp [he]) (fun x hx => isLaid_ok rfl 1 0 rfl rfl)) ?_)
 rintro v l' ⟨rfl, rfl⟩
 cases hf : T.ps.find? (isLaid a b) with
 | none =>
  have hla : laidS T a b = none := by rw [laidS_eq, hf]; rfl
  rw [idxF_none _ xs 0 fun j y hy => by
   have := List.find?_eq_none.1 hf y.1 (by rw [← hxs]; exact List.mem_map_of_mem (List.mem_of_getElem? hy))
   simpa using this, hla]
  refine AU0 ?_
  exact JC.sub (List.sublist_append_right [_, _, _] l) (JC.ret (RT.two rfl rfl rfl rfl ⟨_, [], rfl, Lg.Own.nil _ _, rfl⟩))
 | some p =>
  have hla : laidS T a b = some p.via := by rw [laidS_eq, hf]; rfl
  obtain ⟨hp, i, hi, hpi, hno⟩ := List.find?_eq_some_iff_getElem.1 hf
  have hix : i < xs.length := by omega
  have hy := List.getElem?_eq_getElem hix
  have hmem := List.getElem_mem hix
  have hxp : (xs[i]'hix).1 = p := by
   rw [← hpi]
   have : (xs.map (·.1))[i]? = T.ps[i]? := by rw [hxs]
   rw [List.getElem?_map, hy, List.getElem?_eq_getElem hi] at this
   simpa using this
  have hix0 := idxF_at (fun x : Pt × Value => isLaid a b x.1) xs 0 i _ hy (by simp only [hxp]; exact hp) (fun j y hj hjy => by
   have hjl : j < T.ps.length := by omega
   have := hno j hj
   have e : y.1 = T.ps[j]'hjl := by
    have : (xs.map (·.1))[j]? = T.ps[j]? := by rw [hxs]
    rw [List.getElem?_map, hjy, List.getElem?_eq_getElem hjl] at this
    simpa using this
   rw [e]
   simpa using this)
  rw [Nat.zero_add] at hix0
  rw [hix0, hla]
  obtain ⟨g, o, rfl, hc⟩ := h3.1.at_ (by rw [row_len enc3 enc3_len]; omega)
  obtain ⟨A, c, hxv, h5⟩ := h4 _ hmem
  rw [hxp] at hxv h5
  have hcell : ∀ w, SH W ((b2, isC 9 [sv b]) :: (b1, isC 9 [sv a]) :: (bt, isC 43 [.slice A1 T.rs.length c1, .slice A2 T.ls.length c2, .slice (some ⟨g, o, none⟩) xs.length c3]) :: l) w → w.cell? ⟨g, o + i * 3 + 2, none⟩ = some (.slice A p.via.length c) := fun w hw =>
   Src.elem enc3 enc3_len hc (fun _ h => by simp [h]) hy w hw 2 _ (by unfold enc3; rw [hxv]; rfl)
  have hp4 : p.via.length ≤ 4 := hv p (by rw [← hpi]; exact List.getElem_mem hi)
  have hge : decide ((i : Int) < 0) = false := decide_eq_false (by omega)
  repeat (first | refine JLp (y_lss rfl rfl hge) ?_ | refine JLp (y_index (j := i) rfl rfl (by omega)) ?_ | refine AS3 ?_)
  refine JLs (e_loadS (u := .slice A p.via.length c) rfl hcell ?_)
  refine JLs (e_call rfl rfl (CloneS_ok (xs := p.via.map sv) (m := p.via.length) (by simp) (by omega) (sv_one _) (h5.1.mono fun e he => by simp [he]) h5.2.2) ?_)
  rintro v l' ⟨le, ho, rfl⟩
  refine AU0 ?_
  refine JC.sub (l' := le ++ l) (List.Sublist.append_left (List.sublist_append_right [_, _, _] l) _) (JC.ret (RT.two rfl rfl rfl rfl ⟨v, le, rfl, ho, rfl⟩))
def viaS (T : Topo) (a b : S) : List S := match laidS T a b with
 | some l => l
 | none => betweenS a b
attribute [local irreducible] laidS
theorem Via_ok {T : Topo} {vs : List Value} {a b : S} {W : World} {l : List Ent} (hT : TopoV W l vs T) (hm : T.ps.length ≤ 8) (hv : ∀ p ∈ T.ps, p.via.length ≤ 4) (hfa : fit2 a = true) (hfb : fit2 b = true) (hl1 : lone a b = true) (hoa : okR a = true) (hob : okR b = true) :
  Tr Pg 223 #[.agg vs.toArray, .string (ba a), .string (ba b)] W l fun v l' => ∃ le, Lg.Own 9 1 v (viaS T a b).length ((viaS T a b).map sv) le ∧ l' = le ++ l := by
 obtain ⟨A1, c1, A2, c2, A3, c3, xs, hvs, -⟩ := id hT
 refine Tr.of_code (args := [_, _, _]) Tryz.func223 rfl Tryz.ntmps223 lE_ ?_
 refine AU0 ?_
 refine JLs (e_box (cs := vs) rfl rfl fun bt => ?_)
 refine AU0 ?_
 refine JL.read 0 rfl rfl (r_loadW rfl (by rw [hvs]; rfl)) ?_
 refine AU0 ?_
 refine JLs (e_call rfl rfl (laid_ok (a := a) (b := b) (hT.mono fun e he => List.mem_cons_of_mem _ he) hm hv) ?_)
 rintro v l' ⟨v1, le, rfl, ho, rfl⟩
 cases hla : laidS T a b with
 | some ls =>
  have hvi : viaS T a b = ls := by unfold viaS; rw [hla]
  rw [hla] at ho
  rw [hvi]
  refine AU0 ?_
  exact JC.sub (l' := le ++ l) (List.Sublist.append_left (List.sublist_cons_self _ _) _) (JC.ret (RT.one rfl rfl (by conv => lhs; whnf) ⟨le, ho, rfl⟩))
 | none =>
  have hvi : viaS T a b = betweenS a b := by unfold viaS; rw [hla]
  rw [hvi]
  refine AU0 ?_
  refine JL.sub (l' := l) ((List.sublist_cons_self _ l).trans (List.sublist_append_right _ _)) ?_
  refine JLs (e_call rfl rfl (Between_ok hfa hfb hl1 hoa hob) ?_)
  rintro v l' ⟨le', ho', rfl⟩
  refine AU0 ?_
  exact JC.ret (RT.one rfl rfl (by conv => lhs; whnf) ⟨le', ho', rfl⟩)
theorem out_ok {bw : Nat} {A : Option Addr} {n c : Nat} {ws : List S} {s : S} {W : World} {l : List Ent} (i : Nat) (hw : l[i]? = some (bw, isC 36 [.slice A n c])) (hn : ws.length = n) (hm : n ≤ 1000000) (hs : Src W l A (ws.map sv)) :
  Tr Pg 224 #[sv s, ptr bw] W l fun v l' => v = .bool (!decide (s ∈ ws)) ∧ l' = l := by
 refine Tr.of_code (args := [_, _]) Tryz.func224 rfl Tryz.ntmps224 lE_ ?_
 refine AU0 ?_
 refine JL.read i hw rfl (r_load1 rfl rfl) ?_
 refine AU0 ?_
 refine JLs (e_call rfl rfl (ContainsS_ok (xs := ws) s hn hm hs) ?_)
 rintro v l' ⟨rfl, rfl⟩
 refine AU0 ?_
 exact JC.ret (RT.one rfl rfl rfl ⟨rfl, rfl⟩)
theorem Allowed_ok {T : Topo} {vs : List Value} {a b : S} {ps : List S} {A : Option Addr} {n c : Nat} {W : World} {l : List Ent} (hT : TopoV W l vs T) (hm : T.ps.length ≤ 8) (hv : ∀ p ∈ T.ps, p.via.length ≤ 4) (hfa : fit2 a = true) (hfb : fit2 b = true) (hl1 : lone a b = true) (hoa : okR a = true) (hob : okR b = true)
  (hw : (viaS T a b).length ≤ 1000) (hn : ps.length = n) (hnm : n ≤ 1000) (hs : Src W l A (ps.map sv)) :
  Tr Pg 183 #[.agg vs.toArray, .string (ba a), .string (ba b), .slice A n c] W l fun v l' => v = .bool (!(ps.any fun s => !decide (s ∈ viaS T a b))) ∧ l' = l := by
 obtain ⟨A1, c1, A2, c2, A3, c3, xs, hvs, -⟩ := id hT
 refine Tr.of_code (args := [_, _, _, _]) Tryz.func183 rfl Tryz.ntmps183 lE_ ?_
 refine AU0 ?_
 refine JLs (e_box (cs := vs) rfl rfl fun bt => ?_)
 refine AU0 ?_
 refine JL.read 0 rfl rfl (r_loadW rfl (by rw [hvs]; rfl)) ?_
 refine AU0 ?_
 refine JLs (e_call rfl rfl (Via_ok (hT.mono fun e he => List.mem_cons_of_mem _ he) hm hv hfa hfb hl1 hoa hob) ?_)
 rintro v l' ⟨le, ho, rfl⟩
 refine JL.sub (l' := le ++ l) (List.Sublist.append_left (List.sublist_cons_self _ _) _) ?_
 obtain ⟨A', c', rfl, hsl⟩ := SlV.own (W := W) ho
 refine JLs (e_alloc fun bw => ?_)
 refine JLs (e_store 0 rfl rfl rfl (vs := [.slice A' (viaS T a b).length c']) rfl rfl rfl lE_ ?_)
 refine JL.cast (l' := (bw, isC 36 [.slice A' (viaS T a b).length c']) :: (le ++ l)) (by rfl) ?_
 repeat (first | refine JLp (y_makeFunc (v := .func (.func 224) #[] #[ptr bw]) (by simp only [List.map_toArray, List.map_cons, List.map_nil]; rfl)) ?_ | refine AS0 ?_)
 refine JLs (e_call rfl rfl (ContainsFuncS_ok (xs := ps) (cap := #[ptr bw]) (fun s => !decide (s ∈ viaS T a b)) inferInstance hn (by omega) (by rw [flat1]; exact hs.mono fun e he => by simp [he]) (fun s hs' => out_ok 0 rfl rfl (by omega) (hsl.1.mono fun e he => by simp [he]))) ?_)
 rintro v l' ⟨rfl, rfl⟩
 refine AU0 ?_
 exact JC.sub (List.Sublist.cons _ (List.sublist_append_right _ l)) (JC.ret (RT.one rfl rfl rfl ⟨rfl, rfl⟩))
end Go.Proofs.YtbalcgjphkdecaaGreatDoor.To
namespace Go.Proofs.YtbalcgjphkdecaaGreatDoor.To
open Go.RowKit Go.Lg Go.Shelf
set_option maxRecDepth 100000
attribute [local go_sem] Oper.semAt_some
def upto {α : Type} (f : Nat → α) (k : Nat) : List α := (List.range k).map f
theorem upto_succ {α : Type} (f : Nat → α) (k : Nat) : upto f (k + 1) = upto f k ++ [f k] := by simp [upto, List.range_succ]
theorem upto_length {α : Type} (f : Nat → α) (k : Nat) : (upto f k).length = k := by simp [upto]
set_option maxRecDepth 100000 in
set_option maxHeartbeats 2000000 in
theorem back1_in (n : Nat) (l Bs n₀ b off len cap : Nat) (zs : List ByteArray) (hm : len ≤ 1000000) (hb : b < n₀) (hBn : Bs < n₀) (J Jx : List (Nat × ByteArray) → World → Prop)
  (hY : ∀ pre x W, J pre W → pre.length < len → YieldAt Fence.wide (n - 1) Tryz.prog l #[.int .i64 (x.1 : Int), .string x.2] W fun e W' =>
   (e = .returned (.bool true) ∧ J (pre ++ [x]) W' ∧ Below n₀ W W') ∨ (e = .returned (.bool false) ∧ Jx (pre ++ [x]) W'))
  (W : World) (hBs : W.cell? ⟨Bs, 0, none⟩ = some (.slice (some ⟨b, off, none⟩) len cap)) (hc : ∀ j, j < len → W.cell? ⟨b, off + j, none⟩ = some (.string (zs[j]?.getD ByteArray.empty))) (h0 : J [] W) :
  CallsIn Fence.wide n Tryz.prog 265 #[.func (.yield l) #[] #[], .pointer (some ⟨Bs, 0, none⟩)] W fun e W' => (∃ v, e = .returned v) ∧
   ((∃ ys, ys = upto (fun j => (len - 1 - j, zs[len - 1 - j]?.getD ByteArray.empty)) len ∧ J ys W') ∨ (∃ pre, (∃ k, k ≤ len ∧ pre = upto (fun j => (len - 1 - j, zs[len - 1 - j]?.getD ByteArray.empty)) k) ∧ Jx pre W')) := by
 refine callsIn_of_wp Tryz.func265 rfl trivial ?_ rfl
 simp only [Tryz.ntmps265, List.size_toArray, List.length_cons, List.length_nil, Nat.reduceAdd, Nat.reduceSub, Array.replicate_succ, Array.replicate_zero, List.push_toArray, List.append_toArray, List.nil_append, List.cons_append]
 gi_wp2
 gi_loopw [3] (fun i wr => ∃ k : Nat, k ≤ len ∧ i = .int .i64 ((len : Int) - 1 - k) ∧ J (upto (fun j => (len - 1 - j, zs[len - 1 - j]?.getD ByteArray.empty)) k) wr ∧ Below n₀ W wr)
  (fun i _ => ((intOf i) + 1).toNat)
 case atStart => exact ⟨0, Nat.zero_le _, by simp, h0, Below.refl _ _⟩
 case round =>
  obtain ⟨k, hk, rfl, hJs, hnx⟩ := hrel
  have hcs := (hnx.cell (p := ⟨Bs, 0, none⟩) hBn).trans hBs
  by_cases hlt : k < len
  ·have hcx : wr.cell? ⟨b, off + (len - 1 - k), none⟩ = some (.string (zs[len - 1 - k]?.getD ByteArray.empty)) := (hnx.cell (p := ⟨b, off + (len - 1 - k), none⟩) hb).trans (hc (len - 1 - k) (by omega))
   have hi : ((len : Int) - 1 - k) = ((len - 1 - k : Nat) : Int) := by omega
   obtain ⟨fn, tmps, assign, body, hy, hR⟩ := hY _ (len - 1 - k, zs[len - 1 - k]?.getD ByteArray.empty) wr hJs (by rw [upto_length]; exact hlt)
   dsimp only at hy
   rw [hi]
   obtain ⟨q, hq⟩ : ∃ q, len - 1 - k = q := ⟨_, rfl⟩
   obtain ⟨fq, hfq⟩ : ∃ fq : Nat → Nat × ByteArray, (fun j => (len - 1 - j, zs[len - 1 - j]?.getD ByteArray.empty)) = fq := ⟨_, rfl⟩
   have hfk : fq k = (q, zs[q]?.getD ByteArray.empty) := by rw [← hfq, ← hq]
   rw [hq] at hcx hy ⊢
   have hql : q < len := by omega
   have hpre : upto (fun j => (len - 1 - j, zs[len - 1 - j]?.getD ByteArray.empty)) (k + 1) = upto (fun j => (len - 1 - j, zs[len - 1 - j]?.getD ByteArray.empty)) k ++ [(q, zs[q]?.getD ByteArray.empty)] := by rw [upto_succ, hq]
   rw [hq] at hR
   gi_wp2
   refine ⟨fun h => (by cases h), hR.mono ?_⟩
   rintro e W3 (⟨rfl, hJ3, hk3⟩ | ⟨rfl, hJx3⟩)
   ·gi_wp2
    go_roundw
    case rel => exact ⟨k + 1, by omega, by congr 1; omega, by rw [hpre]; exact hJ3, hnx.trans hk3⟩
    case measure => simp only [intOf]; omega
   ·gi_wp2
    refine bodyPost_ret (results_none rfl _ _ _) rfl ?_
    exact ⟨⟨_, rfl⟩, .inr ⟨_, ⟨k + 1, by omega, hpre.symm⟩, hJx3⟩⟩
  ·obtain rfl : k = len := by omega
   have hi : ((k : Int) - 1 - k) = -1 := by omega
   rw [hi]
   gi_wp2
   go_end0
   exact ⟨⟨_, rfl⟩, .inl ⟨_, rfl, hJs⟩⟩
theorem upto_rev (zs : List ByteArray) (k : Nat) (hk : k ≤ zs.length) : (upto (fun j => (zs.length - 1 - j, zs[zs.length - 1 - j]?.getD ByteArray.empty)) k).map (·.2) = zs.reverse.take k := by
 apply List.ext_getElem?
 intro i
 rw [List.getElem?_map, List.getElem?_take]
 by_cases h : i < k
 ·rw [if_pos h, List.getElem?_reverse (by omega)]
  unfold upto
  rw [List.getElem?_map, List.getElem?_range h]
  simp only [Option.map_some]
  rw [List.getElem?_eq_getElem (by omega)]
  rfl
 ·rw [if_neg h, List.getElem?_eq_none (by rw [upto_length]; omega)]
  rfl
theorem back_stops (n : Nat) (Bs n₀ b off cap : Nat) (zs : List ByteArray) (w : World) (hm : zs.length ≤ 1000000) (hBs : Bs < w.heap.size) (hbw : b < w.heap.size) (hn₀ : n₀ ≤ w.heap.size) (hb : b < n₀) (hBn : Bs < n₀)
  (hc : w.cell? ⟨Bs, 0, none⟩ = some (.slice (some ⟨b, off, none⟩) zs.length cap)) (hI : ∀ j, j < zs.length → w.cell? ⟨b, off + j, none⟩ = some (.string (zs[j]?.getD ByteArray.empty))) :
  SeqStopsK Fence.wide n Tryz.prog 265 #[.pointer (some ⟨Bs, 0, none⟩)] (fun x : Nat × ByteArray => #[Value.int .i64 (x.1 : Int), .string x.2]) (Below n₀) (fun ys => ys.map (·.2) = zs.reverse) (fun pre => pre.map (·.2) <+: zs.reverse) zs.length w := fun l J Jx W hW _ _ hY h0 => by
 have hc' := (hW.cell (p := ⟨Bs, 0, none⟩) hBs).trans hc
 refine (back1_in n l Bs n₀ b off zs.length cap zs hm hb hBn J Jx hY W hc' (fun j hj => (hW.cell (p := ⟨b, off + j, none⟩) hbw).trans (hI j hj)) h0).mono ?_
 rintro e W' ⟨he, ⟨ys, rfl, hj⟩ | ⟨pre, ⟨k, hk, rfl⟩, hj⟩⟩
 ·refine ⟨he, .inl ⟨_, ?_, hj⟩⟩
  dsimp only
  rw [upto_rev zs zs.length (Nat.le_refl _), List.take_of_length_le (by simp)]
 ·refine ⟨he, .inr ⟨_, ?_, hj⟩⟩
  dsimp only
  rw [upto_rev zs k hk]
  exact List.take_prefix _ _
section
attribute [local irreducible] JC JL JD RN RT Eff Yld YldIf Tr
theorem Backward_ok {A : Option Addr} {n c : Nat} {W : World} {l : List Ent} : Tr Pg 242 #[.slice A n c] W l fun v l' => ∃ b, v = .func (.func 265) #[] #[.pointer (some ⟨b, 0, none⟩)] ∧ l' = (b, isC 36 [.slice A n c]) :: l := by
 refine Tr.of_code (args := [_]) Tryz.func242 rfl Tryz.ntmps242 lE_ ?_
 refine AU0 ?_
 refine JLs (e_box (cs := [.slice A n c]) rfl rfl fun b => ?_)
 repeat (first | refine JLp (y_makeFunc (v := .func (.func 265) #[] #[.pointer (some ⟨b, 0, none⟩)]) (by simp only [List.map_toArray, List.map_cons, List.map_nil]; rfl)) ?_ | refine AS0 ?_)
 exact JC.ret (RT.one rfl rfl rfl ⟨b, rfl, rfl⟩)
end
end Go.Proofs.YtbalcgjphkdecaaGreatDoor.To
namespace Go.Proofs.YtbalcgjphkdecaaGreatDoor.To
open Go.RowKit Go.Lg
set_option maxRecDepth 100000
def FinM (P : Program) (fn : Func) (W : World) (Φ : Value → List Ent → Prop) : Kont := .done (bodyPostM Fence.wide 5 P fn fun e w' => ∃ v l', e = .returned v ∧ SH W l' w' ∧ Φ v l')
theorem Tr.of_marks {P : Program} {g : FuncId} {fn : Func} {c : Code} {args : List Value} {W : World} {l : List Ent} {Φ : Value → List Ent → Prop} {n : Nat}
  (hf : P.funcs[g]? = some fn) (hb : fn.body = some c) (hn : fn.ntmps = n) (ha : args.length ≤ n) (h : JC P n W c (FinM P fn W Φ) (frL args) l) : Tr P g args.toArray W l Φ := by
 intro w hs
 refine (callsIn_wide (n := 5)).1 ?_
 refine callsIn_of_wp_marks hf hb trivial ?_ rfl
 refine wpIn_wide.2 ?_
 rw [hn, frL_act _ _ (by simpa using ha)]
 exact h w hs
theorem SH.kept {W A B : World} {L : List Ent} {B0 : Nat} {row : Option Nat} (h : SH W L A) (hg : A.grownBy B row) (hr : ∀ r, row = some r → B0 ≤ r) (hlt : ∀ e ∈ L, e.1 < B0) (hB : W.heap.size ≤ B0) : SH W L B := by
 refine ⟨h.below.grown hg h.below.size (fun k e => Nat.le_trans hB (hr k e)), h.nodup, fun e he => ?_⟩
 obtain ⟨h1, o, h2, h3⟩ := h.ents e he
 refine ⟨h1, o, ?_, h3⟩
 rw [hg.block e.1 (h.lt he) (fun x => by have := hr _ x.symm; have := hlt e he; omega)]
 exact h2
section
variable {P : Program} {n m k : Nat} {ops : Array Oper} {Q : Exit → Act → World → Prop} {rest : List Oper} {f : Fr} {w w' : World} {o : Oper}
theorem inr_val {v : Value} (hw : wantF ops n f o.guard = true) (hnd : ∀ c, o.op ≠ .defer c) (hy : (execOp (ev n f) o).run P w = .ok (.value v) w') (h : wpListIn (Fence.wide.inRound k) m P ops Q rest (act n (put f o.dst v)) w') : wpListIn (Fence.wide.inRound k) m P ops Q (o :: rest) (act n f) w := by
 unfold wpListIn
 rw [act_wanted, if_pos hw]
 refine ⟨fun _ _ => trivial, ?_⟩
 rw [show (Fence.wide.inRound k).round = some k from rfl, Oper.semAt_some k _ _ hnd, act_eval, hy]
 show wpListIn _ _ _ _ _ _ ((act n f).put o.dst v) w'
 rw [act_put]
 exact h
theorem inr_skip (hw : wantF ops n f o.guard = true) (hnd : ∀ c, o.op ≠ .defer c) (hy : (execOp (ev n f) o).run P w = .ok .skip w') (h : wpListIn (Fence.wide.inRound k) m P ops Q rest (act n (put f o.dst undef)) w') : wpListIn (Fence.wide.inRound k) m P ops Q (o :: rest) (act n f) w := by
 unfold wpListIn
 rw [act_wanted, if_pos hw]
 refine ⟨fun _ _ => trivial, ?_⟩
 rw [show (Fence.wide.inRound k).round = some k from rfl, Oper.semAt_some k _ _ hnd, act_eval, hy]
 show wpListIn _ _ _ _ _ _ ((act n f).put o.dst undef) w'
 rw [act_put]
 exact h
theorem inr_call {g : FuncId} {vs : Array Value} (hw : wantF ops n f o.guard = true) (hnd : ∀ c, o.op ≠ .defer c) (hy : (execOp (ev n f) o).run P w = .ok (.enter g vs) w) (h : Calls P g vs w fun e w' => ∃ v, e = .returned v ∧ wpListIn (Fence.wide.inRound k) m P ops Q rest (act n (put f o.dst v)) w') : wpListIn (Fence.wide.inRound k) m P ops Q (o :: rest) (act n f) w := by
 unfold wpListIn
 rw [act_wanted, if_pos hw]
 refine ⟨fun _ _ => trivial, ?_⟩
 rw [show (Fence.wide.inRound k).round = some k from rfl, Oper.semAt_some k _ _ hnd, act_eval, hy]
 refine ⟨fun h => (by cases h), CallsIn.inRound k (callsIn_wide.2 (h.mono ?_))⟩
 rintro e w' ⟨v, rfl, hv⟩
 show wpListIn _ _ _ _ _ _ ((act n f).put o.dst v) w'
 rw [act_put]
 exact hv
variable {ρ : Operand → Value} {d : Option Tmp} {ty : TypeId} {pos : String} {af : Array Edge} {gd : Option (Nat × Bool)}
theorem run_call {g : FuncId} {fo : Operand} {first cap : Array Value} {args : Array Operand} {ats : Array TypeId} {vs : List Value} [hf : FnT P g] (hfo : ρ fo = .func (.func g) first cap) (ha : first.toList ++ (args.toList.map ρ ++ cap.toList) = vs) :
  (execOp ρ ⟨d, .call { callee := .value fo, args := args, argTypes := ats }, ty, pos, af, gd⟩).run P w = .ok (.enter g vs.toArray) w := by
 subst ha
 have e2 : first ++ args.map ρ ++ cap = (first.toList ++ (args.toList.map ρ ++ cap.toList)).toArray := by
  apply Array.ext'
  simp
 rw [← e2]
 simp only [execOp, resolve, hfo, Deferred.ofValue, Sem.run_bind, Sem.run_pure, Result.andThen_ok, invoke]
 obtain ⟨fn, hf, hb, hn⟩ := hf.h
 exact run_enter hf hb hn _ w
theorem run_store1 {W : World} {l : List Ent} {t T : TypeId} {x y : Operand} {b : Nat} {u v : Value} (i : Nat) (he : l[i]? = some (b, isC T [u])) [hs : Sz P t 1] (hx : ρ x = .pointer (some ⟨b, 0, none⟩)) (hy : ρ y = v) (hv : v.cells = #[v]) (h1 : v.oneCell' = true) (hw : SH W l w) :
  ∃ w', (execOp ρ ⟨d, .store t x y, ty, pos, af, gd⟩).run P w = .ok .skip w' ∧ SH W (l.set i (b, isC T [v])) w' ∧ KeepsOthers w w' := by
 obtain ⟨_, ob, hb, fz, rfl, hf⟩ := hw.at_ he
 have hr := run_storeCells P [v] 0 0 [u].toArray w hb (by simpa using hf) (by simp) (fun z hz => by cases List.mem_singleton.1 hz; exact h1)
 simp only [Nat.add_zero] at hr
 rw [spl_splice [u] 0 [v] (by simp)] at hr
 have e0 : spl [u] 0 [v] = [v] := rfl
 rw [e0] at hr
 have e1 : (Instr.storeAt t (.pointer (some ⟨b, 0, none⟩)) v).run P w = .ok () (setB w b (.cells [v].toArray T fz)) := by
  simp [Instr.storeAt, Instr.sureAddr, storeVar, Lg.run_sizeOf hs.h, hv, hr]
 refine ⟨_, ?_, hw.set_ he (setB_ok w hb _) ⟨fz, rfl, hf⟩, ?_⟩
 ·simp only [execOp, hx, hy, Sem.run_bind, e1, Result.andThen_ok, Sem.run_pure]
 ·refine ⟨by simp [setB], fun j o hj ho => ?_⟩
  have hjb : j ≠ b := fun e => by
   rw [e, hb] at hj
   cases hj
   cases ho
  rw [(setB_ok w hb _).2.2.2.2.2 j hjb]
  exact hj
theorem inr_store {W : World} {l : List Ent} {t T : TypeId} {x y : Operand} {b : Nat} {u v : Value} (i : Nat) (he : l[i]? = some (b, isC T [u])) [hs : Sz P t 1] (hx : ev n f x = .pointer (some ⟨b, 0, none⟩)) (hy : ev n f y = v) (hv : v.cells = #[v]) (h1 : v.oneCell' = true) (hw : SH W l w)
  (hwant : wantF ops n f gd = true) (h : ∀ w', SH W (l.set i (b, isC T [v])) w' → KeepsOthers w w' → wpListIn (Fence.wide.inRound k) m P ops Q rest (act n (put f d undef)) w') : wpListIn (Fence.wide.inRound k) m P ops Q (⟨d, .store t x y, ty, pos, af, gd⟩ :: rest) (act n f) w := by
 obtain ⟨w', h2, h3, h4⟩ := run_store1 (P := P) (t := t) (ρ := ev n f) (d := d) (ty := ty) (pos := pos) (af := af) (gd := gd) i he hx hy hv h1 hw
 exact inr_skip hwant (fun _ h => by cases h) h2 (h w' h3 h4)
end
theorem KeepsOthers.of_below {A B : World} (h : Below A.heap.size A B) : KeepsOthers A B := ⟨h.size, fun k o hk _ => by rw [h.block k (Array.getElem?_eq_some_iff.1 hk).1]; exact hk⟩
theorem Src.rebase {W W1 : World} {L : List Ent} {A : Option Addr} {xs : List Value} (h : Src W L A xs) (hs : SH W L W1) : Src W1 [] A xs := by
 cases xs with
 | nil => exact Src.nil ..
 | cons x xs =>
  obtain ⟨b, o, rfl, hc⟩ := h.at_ (Nat.succ_pos _)
  exact Src.was fun j u hu => by rw [addr_add]; exact hc L (fun _ h => h) W1 hs j u hu
theorem SlV.rebase {W W1 : World} {L : List Ent} {A : Option Addr} {n c : Nat} {xs : List Value} (h : SlV W L A n c xs) (hs : SH W L W1) : SlV W1 [] A n c xs := ⟨Src.rebase h.1 hs, h.2⟩
theorem TopoV.rebase {W W1 : World} {L : List Ent} {vs : List Value} {T : Topo} (h : TopoV W L vs T) (hs : SH W L W1) : TopoV W1 [] vs T := by
 obtain ⟨A1, c1, A2, c2, A3, c3, xs, rfl, h1, h2, h3, h4, h5⟩ := h
 exact ⟨A1, c1, A2, c2, A3, c3, xs, rfl, h1, SlV.rebase h2 hs, SlV.rebase h3 hs, SlV.rebase h4 hs, fun x hx => by obtain ⟨A, c, h6, h7⟩ := h5 x hx; exact ⟨A, c, h6, SlV.rebase h7 hs⟩⟩
theorem SH.cells {W w : World} {L : List Ent} {b : Nat} {T : TypeId} {cs : List Value} (h : SH W L w) (i : Nat) (he : L[i]? = some (b, isC T cs)) (j : Nat) (u : Value) (hj : cs[j]? = some u) : w.cell? ⟨b, 0 + j, none⟩ = some u := by
 obtain ⟨_, o, hb, fz, rfl, _⟩ := h.at_ he
 rw [cell_at hb, List.getElem?_toArray, Nat.zero_add]
 exact hj
def lkd (T : Topo) (a : S) (y : ByteArray) : Bool := decide ((a, y.data.toList) ∈ T.ls)
def wayS (T : Topo) (a b : S) : List S := if (laidS T a b).isSome then (viaS T a b ++ [b]).take 1 else viaS T a b ++ [b]
def nextS (T : Topo) (a b : S) : Option S := (wayS T a b).reverse.find? fun s => decide ((a, s) ∈ T.ls)
theorem next_ba {T : Topo} {a b r : S} (h : nextS T a b = some r) : ((wayS T a b).map ba).reverse.find? (lkd T a) = some (ba r) := by
 rw [← List.map_reverse, List.find?_map]
 have : (lkd T a ∘ ba) = fun s => decide ((a, s) ∈ T.ls) := rfl
 rw [this]
 unfold nextS at h
 rw [h]
 rfl
theorem act_two (F : Fr) (n p q : Nat) (u v : Value) : ({ tmps := ((#[p, q] : Array Tmp).zip #[u, v]).foldl (fun t (p, v) => t.setIfInBounds p v) (act n F).tmps, defers := [] } : Act) = act n (put (put F (some p) u) (some q) v) := by
 rw [← act_put, ← act_put]
 simp [Act.put, act]
theorem JC.open_ {P : Program} {n : Nat} {W : World} {c : Code} {K : Kont} {f : Fr} {l : List Ent} (h : ∀ w, SH W l w → c.wp P (K.post P) (act n f) w) : JC P n W c K f l := h
theorem Tr.calls {P : Program} {g : FuncId} {args : Array Value} {W : World} {l : List Ent} {Φ : Value → List Ent → Prop} (h : Tr P g args W l Φ) {w : World} (hs : SH W l w) : Calls P g args w fun e w' => ∃ v l', e = .returned v ∧ SH W l' w' ∧ Φ v l' := h w hs
theorem Yld.run {P : Program} {o : Oper} {ρ : Operand → Value} {v : Value} (h : Yld P o ρ v) (w : World) : (execOp ρ o).run P w = .ok (.value v) w := h w
theorem YldIf.run {P : Program} {S : World → Prop} {o : Oper} {ρ : Operand → Value} {v : Value} (h : YldIf P S o ρ v) {w : World} (hs : S w) : (execOp ρ o).run P w = .ok (.value v) w := h w hs
attribute [local irreducible] JC JL JD RN RT Eff Yld YldIf Tr partsL okR splitL wordB joinD fit betweenS laidS viaS
set_option maxHeartbeats 2000000 in
theorem Next_ok {T : Topo} {vs : List Value} {a b r : S} {W : World} {l : List Ent} (hT : TopoV W l vs T) (hm : T.ps.length ≤ 8) (hv : ∀ p ∈ T.ps, p.via.length ≤ 4) (hml : T.ls.length ≤ 20) (hfa : fit2 a = true) (hfb : fit2 b = true) (hl1 : lone a b = true) (hoa : okR a = true) (hob : okR b = true)
  (hvl : (viaS T a b).length ≤ 1000) (hab : a ≠ b) (hr : nextS T a b = some r) :
  Tr Pg 209 #[.agg vs.toArray, .string (ba a), .string (ba b)] W l fun v l' => v = .tuple #[sv r, .bool true] ∧ l' = l := by
 obtain ⟨A1, c1, A2, c2, A3, c3, xs, hvs, -⟩ := id hT
 have eab := eqSS a b
 rw [decide_eq_false hab] at eab
 refine Tr.of_marks (args := [_, _, _]) Tryz.func209 rfl Tryz.ntmps209 lE_ ?_
 refine AU0 ?_
 refine JLs (e_box (cs := vs) rfl rfl fun b3 => ?_)
 refine JLs (e_box (cs := [sv a]) rfl rfl fun b4 => ?_)
 refine JLs (e_alloc fun b6 => ?_)
 refine JLs (e_alloc fun b7 => ?_)
 repeat (first | refine JLp (y_eqlS rfl rfl eab) ?_ | refine AS4 ?_)
 refine JL.read 3 rfl rfl (r_loadW rfl (by rw [hvs]; rfl)) ?_
 refine AU4 ?_
 refine JLs (e_call rfl rfl (Via_ok (hT.mono fun e he => by simp [he]) hm hv hfa hfb hl1 hoa hob) ?_)
 rintro v l' ⟨le, ho, rfl⟩
 refine AU0 ?_
 refine JLs (e_buildSlice (cells := [sv b]) [sv b] rfl lE_ rfl (fun u hu => by cases List.mem_singleton.1 hu; rfl) rfl fun bn => ?_)
 refine JLs (e_appendP [_] le rfl rfl ho rfl (news := [sv b]) rfl (Src.whole (List.mem_cons_self ..)) (fun u hu => by cases List.mem_singleton.1 hu; rfl) (by omega) (by unfold maxLen; omega) fun v' le' ho' _ => ?_)
 obtain ⟨g, cap, rfl, hc1, hc2, rfl⟩ := own_some ho' (Nat.succ_pos _)
 have hway : (viaS T a b).map sv ++ [sv b] = (viaS T a b ++ [b]).map sv := by rw [List.map_append]; rfl
 rw [hway]
 refine JL.sub (l' := (g, isR 9 (cap * 1) ((viaS T a b ++ [b]).map sv)) :: ((b7, isC 4 [.bool false]) :: (b6, isC 9 [sv []]) :: (b4, isC 9 [sv a]) :: (b3, isC 43 vs) :: l)) (List.sublist_cons_self _ _) ?_
 refine AU0 ?_
 refine JL.read 4 rfl rfl (r_loadW rfl (by rw [hvs]; rfl)) ?_
 refine AU5 ?_
 refine JLs (e_call rfl rfl (laid_ok (a := a) (b := b) (hT.mono fun e he => by simp [he]) hm hv) ?_)
 rintro v l' ⟨v1, le2, rfl, -, rfl⟩
 refine JL.sub (l' := (g, isR 9 (cap * 1) ((viaS T a b ++ [b]).map sv)) :: ((b7, isC 4 [.bool false]) :: (b6, isC 9 [sv []]) :: (b4, isC 9 [sv a]) :: (b3, isC 43 vs) :: l)) (List.sublist_append_right _ _) ?_
 refine AU0 ?_
 -- the way as far as it is gone
 refine JC.cut (fun f l' => ∃ nw, FrOk f [(2, sv b), (3, .pointer (some ⟨b3, 0, none⟩)), (4, .pointer (some ⟨b4, 0, none⟩)), (6, .pointer (some ⟨b6, 0, none⟩)), (7, .pointer (some ⟨b7, 0, none⟩)), (8, .slice (some ⟨g, 0, none⟩) nw cap)] ∧ nw = (wayS T a b).length ∧ nw ≤ 1001 ∧ nw ≤ cap ∧ l' = (g, isR 9 (cap * 1) ((viaS T a b ++ [b]).map sv)) :: ((b7, isC 4 [.bool false]) :: (b6, isC 9 [sv []]) :: (b4, isC 9 [sv a]) :: (b3, isC 43 vs) :: l)) ?_ fun K' hK => ?_
 rotate_left
 ·cases hla : (laidS T a b).isSome with
  | true =>
   repeat (first | refine JLp (y_sliceTo (h := 1) rfl rfl (by omega)) ?_ | refine AS0 ?_)
   refine hK _ _ ⟨1, ⟨rfl, rfl, rfl, rfl, rfl, rfl, trivial⟩, ?_, by omega, by omega, rfl⟩
   unfold wayS
   rw [hla, if_pos rfl, List.length_take, List.length_append, List.length_singleton]
   omega
  | false =>
   refine AU0 ?_
   refine hK _ _ ⟨_, ⟨rfl, rfl, rfl, rfl, rfl, rfl, trivial⟩, ?_, by omega, by omega, rfl⟩
   unfold wayS
   rw [hla, if_neg (by simp), List.length_append, List.length_singleton]
 rintro f l' ⟨nw, hf, hnw, hnw2, hnc, rfl⟩
 refine RN.frame _ hf fun f' => ?_
 have hpre : (wayS T a b).map sv = ((viaS T a b ++ [b]).map sv).take nw := by
  rw [hnw]
  unfold wayS
  split
  ·rw [List.map_take, List.length_take, List.length_append, List.length_singleton, Nat.min_eq_left (by omega)]
  ·rw [List.take_of_length_le (by simp)]
 refine AU0 ?_
 refine JLs (e_call rfl rfl Backward_ok ?_)
 rintro v l' ⟨bx, rfl, rfl⟩
 refine AU0 ?_
 refine JC.frame [(2, sv b), (3, .pointer (some ⟨b3, 0, none⟩)), (4, .pointer (some ⟨b4, 0, none⟩)), (6, .pointer (some ⟨b6, 0, none⟩)), (7, .pointer (some ⟨b7, 0, none⟩)), (34, .func (.func 265) #[] #[.pointer (some ⟨bx, 0, none⟩)])] ⟨rfl, rfl, rfl, rfl, rfl, rfl, trivial⟩ fun F0 => ?_
 obtain ⟨F, hF⟩ : ∃ F, puts F0 [(2, sv b), (3, .pointer (some ⟨b3, 0, none⟩)), (4, .pointer (some ⟨b4, 0, none⟩)), (6, .pointer (some ⟨b6, 0, none⟩)), (7, .pointer (some ⟨b7, 0, none⟩)), (34, .func (.func 265) #[] #[.pointer (some ⟨bx, 0, none⟩)])] = F := ⟨_, rfl⟩
 have hF3 : F 3 = .pointer (some ⟨b3, 0, none⟩) := by rw [← hF]; rfl
 have hF4 : F 4 = .pointer (some ⟨b4, 0, none⟩) := by rw [← hF]; rfl
 have hF6 : F 6 = .pointer (some ⟨b6, 0, none⟩) := by rw [← hF]; rfl
 have hF7 : F 7 = .pointer (some ⟨b7, 0, none⟩) := by rw [← hF]; rfl
 have hF34 : F 34 = .func (.func 265) #[] #[.pointer (some ⟨bx, 0, none⟩)] := by rw [← hF]; rfl
 rw [hF]
 refine JC.open_ fun w hw => (wpIn_wide (n := 5)).1 ?_
 have hlt := fun e he => hw.lt (e := e) he
 have hWw : W.heap.size ≤ w.heap.size := hw.below.size
 have hbx : bx < w.heap.size := hlt _ (List.mem_cons_self ..)
 have hg : g < w.heap.size := hlt (g, _) (List.mem_cons_of_mem _ (List.mem_cons_self ..))
 have hb7 : b7 < w.heap.size := hlt (b7, isC 4 [.bool false]) (by simp)
 have hb6 : b6 < w.heap.size := hlt (b6, isC 9 [sv []]) (by simp)
 have hb4 : b4 < w.heap.size := hlt (b4, isC 9 [sv a]) (by simp)
 have hb3 : b3 < w.heap.size := hlt (b3, isC 43 vs) (by simp)
 have hzl : ((wayS T a b).map ba).length = nw := by rw [List.length_map]; exact hnw.symm
 have hIc : ∀ j, j < ((wayS T a b).map ba).length → w.cell? ⟨g, 0 + j, none⟩ = some (.string (((wayS T a b).map ba)[j]?.getD ByteArray.empty)) := fun j hj => by
  obtain ⟨_, o, hb, cur, rfl, _, ht⟩ := hw.at_ (i := 1) rfl
  have hj' : j < (wayS T a b).length := by simpa using hj
  have h1 : ((wayS T a b).map sv)[j]? = some (sv ((wayS T a b)[j]'hj')) := by simp [List.getElem?_eq_getElem hj']
  rw [hpre, List.getElem?_take] at h1
  split at h1
  ·rw [cell_at hb, Nat.zero_add, row_get ht h1]
   simp [sv, List.getElem?_eq_getElem hj']
  ·cases h1
 have hcx := SH.cells hw 0 rfl 0 _ rfl
 rw [← hzl] at hcx
 have hlt1 : ∀ y : ByteArray, ∀ e ∈ ((bx, isC 36 [.slice (some ⟨g, 0, none⟩) nw cap]) :: (g, isR 9 (cap * 1) ((viaS T a b ++ [b]).map sv)) :: (b7, isC 4 [.bool true]) :: (b6, isC 9 [.string y]) :: (b4, isC 9 [sv a]) :: (b3, isC 43 vs) :: l : List Ent), e.1 < w.heap.size := fun y e he => by
  simp only [List.mem_cons] at he
  rcases he with rfl | rfl | rfl | rfl | rfl | rfl | he
  ·exact hbx
  ·exact hg
  ·exact hb7
  ·exact hb6
  ·exact hb4
  ·exact hb3
  ·exact hlt e (by simp [he])
 refine wpIn_rangeFunc_ownF rfl (by decide) (gf := 265) (lb := #[.pointer (some ⟨bx, 0, none⟩)]) (by rw [act_eval]; exact hF34) trivial (enters_of Tryz.func265 (by kernel_rfl) rfl)
  (back_stops 4 bx w.heap.size g 0 cap ((wayS T a b).map ba) w (by omega) hbx hg (Nat.le_refl _) hg hbx hcx hIc) (fun h k => belowK_t h k) (belowK_b (Nat.le_refl _)) (Below.refl _ _) (fun _ => rfl)
  (fun pre W' => SH W ((bx, isC 36 [.slice (some ⟨g, 0, none⟩) nw cap]) :: (g, isR 9 (cap * 1) ((viaS T a b ++ [b]).map sv)) :: ((b7, isC 4 [.bool false]) :: (b6, isC 9 [sv []]) :: (b4, isC 9 [sv a]) :: (b3, isC 43 vs) :: l)) W' ∧ w.heap.size ≤ W'.heap.size ∧ ∀ y ∈ pre.map (·.2), lkd T a y = false)
  (fun c pre W' => c = .ret ∧ ∃ y, (pre.map (·.2)).find? (lkd T a) = some y ∧ SH W ((bx, isC 36 [.slice (some ⟨g, 0, none⟩) nw cap]) :: (g, isR 9 (cap * 1) ((viaS T a b ++ [b]).map sv)) :: (b7, isC 4 [.bool true]) :: (b6, isC 9 [.string y]) :: (b4, isC 9 [sv a]) :: (b3, isC 43 vs) :: l) W')
  (fun s A B row hs hg hr => ⟨SH.kept hs.1 hg (fun r e => (hr r e).1) hlt hWw, Nat.le_trans hs.2.1 hg.size, hs.2.2⟩)
  (fun c s A B row hs hg hr => ⟨hs.1, hs.2.imp fun y hy => ⟨hy.1, SH.kept hy.2 hg (fun r e => (hr r e).1) (hlt1 y) hWw⟩⟩)
  ⟨hw, Nat.le_refl _, by simp⟩ (fun x => act 42 (put (put (put F (some 35) (.int .i64 (x.1 : Int))) (some 36) (.string x.2)) (some 12) (.string x.2))) ?assign ?body ?done ?stop
 case assign =>
  intro k x W' K hK
  rw [act_two]
  refine wpIn_region_lit (inr_val rfl (fun _ h => by cases h) (Yld.run (y_assign (v := .string x.2) rfl) _) ?_)
  exact wpListIn_nil hK
 case body =>
  rintro k pre x W' ⟨hs, hpw, hno⟩ _
  obtain ⟨G, hG⟩ : ∃ G, put (put (put F (some 35) (.int .i64 (x.1 : Int))) (some 36) (.string x.2)) (some 12) (.string x.2) = G := ⟨_, rfl⟩
  have hG3 : G 3 = .pointer (some ⟨b3, 0, none⟩) := by rw [← hG]; exact hF3
  have hG4 : G 4 = .pointer (some ⟨b4, 0, none⟩) := by rw [← hG]; exact hF4
  have hG6 : G 6 = .pointer (some ⟨b6, 0, none⟩) := by rw [← hG]; exact hF6
  have hG7 : G 7 = .pointer (some ⟨b7, 0, none⟩) := by rw [← hG]; exact hF7
  have hG12 : G 12 = .string x.2 := by rw [← hG]; rfl
  rw [hG]
  have hc3 := SH.cells hs 5 rfl
  have hc4 := SH.cells hs 4 rfl 0 (sv a) rfl
  have hT1 := TopoV.rebase (hT.mono (r' := (bx, isC 36 [.slice (some ⟨g, 0, none⟩) nw cap]) :: (g, isR 9 (cap * 1) ((viaS T a b ++ [b]).map sv)) :: ((b7, isC 4 [.bool false]) :: (b6, isC 9 [sv []]) :: (b4, isC 9 [sv a]) :: (b3, isC 43 vs) :: l)) (fun e he => by simp [he])) hs
  refine wpIn_block (wpIn_seq (wpIn_region_lit ?_))
  refine inr_val rfl (fun _ h => by cases h) (YldIf.run (S := fun w => w = W') (y_loadIfA (cs := vs) (b := b3) (o := 0) (hs := by rw [hvs]; infer_instance) hG3 (fun w hw => by rw [hw]; exact hc3)) rfl) ?_
  refine inr_val rfl (fun _ h => by cases h) (YldIf.run (S := fun w => w = W') (y_loadIf (v := sv a) hG4 (fun w hw => by rw [hw]; exact hc4)) rfl) ?_
  refine inr_val rfl (fun _ h => by cases h) (Yld.run (y_move (v := .string x.2) hG12) _) ?_
  refine inr_call (vs := #[.agg vs.toArray, sv a, .string x.2]) rfl (fun _ h => by cases h) (run_call (vs := [.agg vs.toArray, sv a, .string x.2]) rfl rfl) ?_
  refine (Tr.calls (Linked_ok (a := a) (b := x.2.data.toList) hT1 hml) (SH.start W')).mono ?_
  rintro e W2 ⟨v, l', rfl, hs2, rfl, rfl⟩
  have hk2 : KeepsOthers W' W2 := KeepsOthers.of_below hs2.below
  have hsW2 := SH.grow hs hs2.below
  refine ⟨_, rfl, wpListIn_nil ?_⟩
  cases hl : decide ((a, x.2.data.toList) ∈ T.ls) with
  | false =>
   refine wpIn_cond_false (by rw [act_eval]; rfl) (wpIn_skip ?_)
   refine ⟨hk2, hs2.below.mono hpw, hsW2, Nat.le_trans hpw hs2.below.size, fun y hy => ?_⟩
   rw [List.map_append] at hy
   rcases List.mem_append.1 hy with hy | hy
   ·exact hno y hy
   ·cases List.mem_singleton.1 hy
    exact hl
  | true =>
   refine wpIn_cond_true (by rw [act_eval]; rfl) (wpIn_seq (wpIn_region_lit ?_))
   refine inr_val rfl (fun _ h => by cases h) (Yld.run (y_move (v := .string x.2) hG12) _) ?_
   refine inr_store (v := .string x.2) 3 rfl hG6 rfl rfl rfl hsW2 rfl fun W3 hs3 hk3 => ?_
   refine inr_store (v := .bool true) 2 rfl hG7 rfl rfl rfl hs3 rfl fun W4 hs4 hk4 => ?_
   refine wpListIn_nil (wpIn_ret ?_)
   refine ⟨hk2.trans (hk3.trans hk4), rfl, x.2, ?_, hs4⟩
   rw [List.map_append, List.find?_append, List.find?_eq_none.2 (fun y hy => by rw [hno y hy]; simp)]
   show (List.find? (lkd T a) [x.2]) = some x.2
   exact List.find?_cons_of_pos (p := lkd T a) hl
 case done =>
  rintro D ys W' _ hys ⟨_, _, hno⟩ _
  exfalso
  have h1 := next_ba hr
  rw [← hys] at h1
  have h2 := hno _ (List.mem_of_find?_eq_some h1)
  rw [List.find?_some h1] at h2
  cases h2
 case stop =>
  rintro D c pre W' hD hsp ⟨rfl, y, hy, hs⟩ hK
  have hyr : y = ba r := by
   have h1 := next_ba hr
   obtain ⟨t, ht⟩ := hsp
   rw [← ht, List.find?_append, hy] at h1
   simpa using h1
  subst hyr
  refine wpIn_ret ?_
  rw [Kont.post_ret]
  refine ⟨by simp, .inl ⟨D, _, rfl, run_takeDeferred hK, ?_⟩⟩
  have hs2 := SH.kept hs (grownBy_putObj' _ D (.deferred none)) (fun r e => by cases e; exact hD) (hlt1 (ba r)) hWw
  refine ⟨.tuple #[sv r, .bool true], ?_, _, l, rfl, ?_, rfl, rfl⟩
  ·refine res_cells2 rfl (by rw [act_getD]; exact hF6) (by rw [act_getD]; exact hF7) ?_ ?_
   ·exact run_loadVar_one Pg (SH.cells hs2 3 rfl 0 _ rfl) (inferInstance : Agg Pg 9 false).h
   ·exact run_loadVar_one Pg (SH.cells hs2 2 rfl 0 _ rfl) (inferInstance : Agg Pg 4 false).h
  ·exact hs2.sub (List.sublist_append_right [_, _, _, _, _, _] l)
end Go.Proofs.YtbalcgjphkdecaaGreatDoor.To
namespace Go.Lg
open Go.RowKit
def IsRow (k : IntKind) (w : World) (a : Option Addr) (len cap : Nat) (zs : List Int) : Prop :=
 (a = none ∧ len = 0 ∧ cap = 0 ∧ zs = []) ∨
 ∃ x, a = some x ∧ len ≤ cap ∧ cap ≤ maxLen ∧ zs.length = cap ∧ (∀ i, i < zs.length → w.cell? (x.add i) = some (.int k (zs.getD i 0))) ∧ ∀ n ∈ zs, (Lit.int k n).wf = true
end Go.Lg
namespace Go.Proofs.YtbalcgjphkdecaaGreatDoor
open Go.RowKit Go.Lg
set_option maxRecDepth 100000
attribute [local irreducible] JC JL JD RN RT Eff Yld YldIf Tr
theorem Grow_ok (n : Nat) (hn : n ≤ 70368744177664) (W : World) (r : List Ent) : Tr Pg 236 #[.slice none 0 0, .int .i64 (n : Int)] W r fun v l' => ∃ le, Lg.Own 5 1 v 0 [] le ∧ l' = le ++ r := by
 refine Tr.of_code (args := [_, _]) Tryz.func236 rfl Tryz.ntmps236 lE_ ?_
 have h0 : IntKind.i64.wrap ((n : Int) - ((((0 : Nat) : Int) - ((0 : Nat) : Int)))) = (n : Int) := by rw [wrap_add (by omega) (by omega)]; omega
 by_cases h : 0 < n
 ·repeat (first | refine JLp (y_cap rfl) ?_ | refine JLp (y_sub rfl rfl (c := 0) rfl) ?_ | refine JLp (y_sub rfl rfl (c := (n : Int)) (by rw [wrap_add (by omega) (by omega)]; omega)) ?_ | refine JLp (y_sliceNil rfl trivial ⟨_, rfl⟩) ?_ | refine AS0 ?_)
  refine JLs (e_growNil rfl rfl h (by omega) (by unfold maxLen; omega) fun b cap h1 h2 => ?_)
  repeat (first | refine JLp (y_sliceTo (h := 0) rfl rfl (Nat.zero_le _)) ?_ | refine AS0 ?_)
  exact JC.ret (RT.one rfl rfl (by conv => lhs; whnf) ⟨[_], ⟨rfl, .inr ⟨b, cap, rfl, Nat.zero_le _, h2, rfl⟩⟩, rfl⟩)
 ·obtain rfl : n = 0 := by omega
  repeat (first | refine JLp (y_cap rfl) ?_ | refine JLp (y_sub rfl rfl (c := 0) rfl) ?_ | refine AS0 ?_)
  exact JC.ret (RT.one rfl rfl (by conv => lhs; whnf) ⟨[], Lg.Own.nil .., rfl⟩)
theorem flat_len_take (bss : List (List UInt8)) (i : Nat) : (bss.take i).flatten.length ≤ bss.flatten.length := by
 have h : bss.flatten = (bss.take i).flatten ++ (bss.drop i).flatten := by rw [← List.flatten_append, List.take_append_drop]
 rw [h, List.length_append]; omega
theorem flat_step {bss : List (List UInt8)} {i : Nat} (hi : i < bss.length) : (bss.take (i + 1)).flatten = (bss.take i).flatten ++ bss[i] := by
 rw [List.take_succ_eq_append_getElem hi, List.flatten_append]; simp
set_option maxHeartbeats 2000000 in
/-- slices.Concat of rows of bytes: a row of its own that holds them all. -/
theorem Concat_ok {A : Option Addr} {n c : Nat} {bss : List (List UInt8)} {W : World} {r : List Ent} (hn : bss.length = n) (hn63 : n ≤ maxLen) (hr : RowsAt W r A bss) (htot : bss.flatten.length ≤ 70368744177664) :
  Tr Pg 201 #[.slice A n c] W r fun v l' => ∃ le, Lg.Own 5 1 v bss.flatten.length (bss.flatten.map bv) le ∧ l' = le ++ r := by
 obtain ⟨hs, hh, hsrc, hrow⟩ := hr
 have hn' : (n : Int) ≤ 9223372036854775807 := by unfold maxLen at hn63; omega
 refine Tr.of_code (args := [_]) Tryz.func201 rfl Tryz.ntmps201 lE_ ?_
 refine AU0 ?_
 refine JC.loop (fun m f l => ∃ i, i + m = n ∧ FrOk f [(0, .slice A n c), (3, .int .i64 ((bss.take i).flatten.length : Int)), (9, .slice A n c), (10, .int .i64 (n : Int)), (11, .int .i64 (i : Int))] ∧ l = r) n ?_ ?_
 ·exact ⟨0, by omega, ⟨rfl, rfl, rfl, rfl, rfl, trivial⟩, rfl⟩
 rintro m f l ⟨i, hm, hf, rfl⟩
 refine JC.frame _ hf fun f' => ?_
 by_cases hi : i < n
 ·have hi' : i < bss.length := by omega
  obtain ⟨b, o, rfl, hc⟩ := hsrc.at_ (by omega)
  obtain ⟨Ai, ci, h1, h2, h3⟩ := hrow i _ (List.getElem?_eq_getElem hi')
  have hc' : ∀ w, SH W l w → w.cell? ⟨b, o + i * 1, none⟩ = some (.slice Ai (bss[i]'hi').length ci) := fun w hw => by
   rw [Nat.mul_one]; exact hc l (fun _ h => h) w hw i _ h1
  have hb := flat_len_take bss (i + 1)
  have hst := congrArg List.length (flat_step hi')
  rw [List.length_append] at hst
  refine AU0 ?_
  refine JLs (e_loadS rfl hc' ?_)
  refine AU0 ?_
  refine RN.loop (m' := m - 1) (by omega) ⟨i + 1, by omega, ⟨rfl, ?_, rfl, rfl, rfl, trivial⟩, rfl⟩
  rw [hst]; rfl
 ·obtain rfl : n = i := by omega
  rw [List.take_of_length_le (by omega)]
  refine AU0 ?_
  refine JLs (e_call rfl rfl (Grow_ok bss.flatten.length htot W l) ?_)
  rintro v l' ⟨le, ho, rfl⟩
  refine AU0 ?_
  refine JC.loop (fun m f l1 => ∃ i v le, i + m = n ∧ FrOk f [(6, v), (25, .slice A n c), (26, .int .i64 (n : Int)), (27, .int .i64 (i : Int))] ∧ Lg.Own 5 1 v (bss.take i).flatten.length ((bss.take i).flatten.map bv) le ∧ l1 = le ++ l) n ?_ ?_
  ·exact ⟨0, v, le, by omega, ⟨rfl, rfl, rfl, rfl, trivial⟩, ho, rfl⟩
  rintro m f l1 ⟨i, v, le, hm, hf, ho, rfl⟩
  refine JC.frame _ hf fun f' => ?_
  by_cases hi : i < n
  ·have hi' : i < bss.length := by omega
   obtain ⟨b, o, rfl, hc⟩ := hsrc.at_ (by omega)
   obtain ⟨Ai, ci, h1, h2, h3⟩ := hrow i _ (List.getElem?_eq_getElem hi')
   have hc' : ∀ w, SH W (le ++ l) w → w.cell? ⟨b, o + i * 1, none⟩ = some (.slice Ai (bss[i]'hi').length ci) := fun w hw => by
    rw [Nat.mul_one]; exact hc (le ++ l) (fun _ h => List.mem_append_right _ h) w hw i _ h1
   have hb := flat_len_take bss (i + 1)
   have hst := congrArg List.length (flat_step hi')
   rw [List.length_append] at hst
   refine AU0 ?_
   refine JLs (e_loadS rfl hc' ?_)
   refine AU0 ?_
   refine JLs (e_appendP [] le rfl rfl ho rfl (news := (bss[i]'hi').map bv) (by rw [List.length_map, Nat.mul_one]) (h2.mono fun e he => List.mem_append_right _ he) (bv_one _) (by omega) (by unfold maxLen; omega) fun v' le' ho' _ => ?_)
   refine AU0 ?_
   refine RN.loop (m' := m - 1) (by omega) ⟨i + 1, v', le', by omega, ⟨rfl, rfl, rfl, rfl, trivial⟩, ?_, rfl⟩
   rw [hst, flat_step hi', List.map_append]
   exact ho'
  ·obtain rfl : n = i := by omega
   rw [List.take_of_length_le (by omega)] at ho
   refine AU0 ?_
   exact JC.ret (RT.one rfl rfl (by conv => lhs; whnf) ⟨le, ho, rfl⟩)
end Go.Proofs.YtbalcgjphkdecaaGreatDoor
namespace Go.Proofs.YtbalcgjphkdecaaGreatDoor.De
open Go.RowKit Go.Lg
set_option maxRecDepth 100000
def lenB (n : Nat) : List UInt8 := if n < 128 then [UInt8.ofNat n] else if n ≤ 255 then [129, UInt8.ofNat n] else [130, UInt8.ofNat (n / 256), UInt8.ofNat n]
def wrapB (tag : UInt8) (p : List UInt8) : List UInt8 := tag :: (lenB p.length ++ p)
def le (n : Nat) : List UInt8 := if h : n = 0 then [] else UInt8.ofNat n :: le (n / 256)
 termination_by n
 decreasing_by omega
def fixB (b : List UInt8) : List UInt8 := if b = [] ∨ 128 ≤ (b.getLastD 0).toNat then b ++ [0] else b
def num (n : Nat) : List UInt8 := (fixB (le n)).reverse
def vL : List UInt8 → Nat
 | [] => 0
 | b :: r => b.toNat + 256 * vL r
def numV (p : List UInt8) : Nat := vL p.reverse
def headS (b : List UInt8) : Option (Nat × Nat) :=
 if 1 ≤ b.length ∧ (b.getD 0 0).toNat < 128 then some (1, (b.getD 0 0).toNat)
 else if 2 ≤ b.length ∧ (b.getD 0 0).toNat = 129 ∧ 128 ≤ (b.getD 1 0).toNat then some (2, (b.getD 1 0).toNat)
 else if 3 ≤ b.length ∧ (b.getD 0 0).toNat = 130 ∧ 0 < (b.getD 1 0).toNat then some (3, (b.getD 1 0).toNat * 256 + (b.getD 2 0).toNat)
 else none
def takeS (tag : UInt8) (b : List UInt8) : Option (List UInt8 × List UInt8) :=
 if 0 < b.length ∧ b.getD 0 0 = tag then
  match headS (b.drop 1) with
  | some (k, n) => if k + n ≤ (b.drop 1).length then some (((b.drop 1).drop k).take n, (b.drop 1).drop (k + n)) else none
  | none => none
 else none
def IsNum (p : List UInt8) : Prop := 1 ≤ p.length ∧ p.length ≤ 8 ∧ (p.getD 0 0).toNat < 128 ∧ (1 < p.length → (p.getD 0 0).toNat = 0 → 128 ≤ (p.getD 1 0).toNat)
instance (p : List UInt8) : Decidable (IsNum p) := by unfold IsNum; infer_instance
def intS (b : List UInt8) : Option (Nat × List UInt8) :=
 match takeS 2 b with
 | some (p, rest) => if IsNum p ∧ numV p ≤ 4611686018427387904 then some (numV p, rest) else none
 | none => none
def clampI (n : Int) : Nat := (min (max n 0) 4611686018427387904).toNat
theorem clampI_le (n : Int) : clampI n ≤ 4611686018427387904 := by unfold clampI; omega
theorem clampI_of {n : Int} (h : 0 ≤ n ∧ n ≤ 4611686018427387904) : clampI n = n.toNat := by unfold clampI; omega
theorem ofNat_toNat {n : Nat} (h : n < 256) : (UInt8.ofNat n).toNat = n := by rw [UInt8.toNat_ofNat']; omega
theorem lenB_len (n : Nat) : (lenB n).length = if n < 128 then 1 else if n ≤ 255 then 2 else 3 := by
 unfold lenB
 split
 ·rfl
 ·split <;> rfl
theorem wrapB_len (tag : UInt8) (p : List UInt8) : (wrapB tag p).length = 1 + (lenB p.length).length + p.length := by simp [wrapB]; omega
theorem headS_lenB {n : Nat} (hn : n < 65536) (r : List UInt8) : headS (lenB n ++ r) = some ((lenB n).length, n) := by
 unfold lenB
 by_cases h1 : n < 128
 ·rw [if_pos h1]
  simp [headS, ofNat_toNat (show n < 256 by omega), h1]
 rw [if_neg h1]
 by_cases h2 : n ≤ 255
 ·rw [if_pos h2]
  simp [headS, ofNat_toNat (show n < 256 by omega)]
  omega
 ·rw [if_neg h2]
  have e1 : (UInt8.ofNat (n / 256)).toNat = n / 256 := ofNat_toNat (by omega)
  have e2 : (UInt8.ofNat n).toNat = n % 256 := UInt8.toNat_ofNat' ..
  simp only [headS, List.cons_append, List.nil_append, List.length_cons, List.getD_cons_zero, List.getD_cons_succ, e1, e2]
  rw [if_neg (by rintro ⟨_, h⟩; revert h; decide), if_neg (by rintro ⟨_, h, _⟩; revert h; decide), if_pos ⟨by omega, by decide, by omega⟩]
  congr 2
  omega
theorem takeS_wrap (tag : UInt8) {p : List UInt8} (h : p.length < 65536) (rest : List UInt8) : takeS tag (wrapB tag p ++ rest) = some (p, rest) := by
 unfold takeS wrapB
 rw [if_pos ⟨by simp, rfl⟩]
 have e : ((tag :: (lenB p.length ++ p)) ++ rest).drop 1 = lenB p.length ++ (p ++ rest) := by simp
 rw [e, headS_lenB h]
 dsimp only
 rw [if_pos (by simp), List.drop_left, ← List.drop_drop, List.drop_left, List.take_left, List.drop_left]
theorem len3 {b : List UInt8} (h : 3 ≤ b.length) : ∃ x y z r, b = x :: y :: z :: r := by
 cases b with
 | nil => simp at h
 | cons x b =>
  cases b with
  | nil => simp at h
  | cons y b =>
   cases b with
   | nil => simp at h
   | cons z r => exact ⟨x, y, z, r, rfl⟩
theorem headS_some {b : List UInt8} {k n : Nat} (h : headS b = some (k, n)) : n < 65536 ∧ k ≤ b.length ∧ b.take k = lenB n ∧ k = (lenB n).length := by
 unfold headS at h
 by_cases h1 : 1 ≤ b.length ∧ (b.getD 0 0).toNat < 128
 ·rw [if_pos h1] at h
  match b, h1, h with
  | x :: r, h1, h =>
   obtain ⟨_, h3⟩ := h1
   simp only [List.getD_cons_zero] at h h3
   obtain ⟨rfl, rfl⟩ := Prod.mk.inj (Option.some.inj h)
   refine ⟨by omega, by simp, ?_, ?_⟩
   ·unfold lenB; rw [if_pos h3]; simp
   ·unfold lenB; rw [if_pos h3]; rfl
 rw [if_neg h1] at h
 by_cases h2 : 2 ≤ b.length ∧ (b.getD 0 0).toNat = 129 ∧ 128 ≤ (b.getD 1 0).toNat
 ·rw [if_pos h2] at h
  match b, h2, h with
  | [_], h2, _ => exact absurd h2.1 (by simp)
  | x :: y :: r, h2, h =>
   obtain ⟨_, h3, h4⟩ := h2
   simp only [List.getD_cons_zero, List.getD_cons_succ] at h h3 h4
   obtain ⟨rfl, rfl⟩ := Prod.mk.inj (Option.some.inj h)
   have hy := y.toNat_lt
   have hx : x = 129 := UInt8.toNat_inj.1 h3
   refine ⟨by omega, by simp, ?_, ?_⟩
   ·unfold lenB; rw [if_neg (by omega), if_pos (by omega)]; simp [hx]
   ·unfold lenB; rw [if_neg (by omega), if_pos (by omega)]; rfl
 rw [if_neg h2] at h
 by_cases h3 : 3 ≤ b.length ∧ (b.getD 0 0).toNat = 130 ∧ 0 < (b.getD 1 0).toNat
 ·rw [if_pos h3] at h
  obtain ⟨x, y, z, r, rfl⟩ := len3 h3.1
  ·obtain ⟨_, h4, h5⟩ := h3
   simp only [List.getD_cons_zero, List.getD_cons_succ] at h h4 h5
   obtain ⟨rfl, rfl⟩ := Prod.mk.inj (Option.some.inj h)
   have hy := y.toNat_lt
   have hz := z.toNat_lt
   have hx : x = 130 := UInt8.toNat_inj.1 h4
   have e1 : (y.toNat * 256 + z.toNat) / 256 = y.toNat := by omega
   have e2 : UInt8.ofNat (y.toNat * 256 + z.toNat) = z := UInt8.toNat_inj.1 (by rw [UInt8.toNat_ofNat']; omega)
   refine ⟨by omega, by simp, ?_, ?_⟩
   ·unfold lenB; rw [if_neg (by omega), if_neg (by omega), e1, e2]; simp [hx]
   ·unfold lenB; rw [if_neg (by omega), if_neg (by omega)]; rfl
 rw [if_neg h3] at h
 cases h
theorem takeS_some {tag : UInt8} {b p rest : List UInt8} (h : takeS tag b = some (p, rest)) : b = wrapB tag p ++ rest ∧ p.length < 65536 := by
 unfold takeS at h
 by_cases h1 : 0 < b.length ∧ b.getD 0 0 = tag
 ·rw [if_pos h1] at h
  match b, h1, h with
  | t :: c, h1, h =>
   obtain ⟨_, rfl⟩ := h1
   simp only [List.getD_cons_zero, List.drop_one, List.tail_cons] at h ⊢
   cases hh : headS c with
   | none => rw [hh] at h; cases h
   | some x =>
    obtain ⟨k, n⟩ := x
    rw [hh] at h
    dsimp only at h
    by_cases h2 : k + n ≤ c.length
    ·rw [if_pos h2] at h
     cases h
     obtain ⟨h3, h4, h5, h6⟩ := headS_some hh
     have hl : ((c.drop k).take n).length = n := by simp; omega
     refine ⟨?_, by omega⟩
     unfold wrapB
     rw [hl, ← h5]
     simp only [List.cons_append, List.append_assoc]
     congr 1
     rw [← List.drop_drop, List.take_append_drop, List.take_append_drop]
    ·rw [if_neg h2] at h; cases h
 ·rw [if_neg h1] at h; cases h
theorem le_zero : le 0 = [] := by rw [le]; rfl
theorem le_pos {n : Nat} (h : n ≠ 0) : le n = UInt8.ofNat n :: le (n / 256) := by rw [le, dif_neg h]
theorem vL_le (n : Nat) : vL (le n) = n := by
 induction n using Nat.strongRecOn with
 | ind n ih =>
  by_cases h : n = 0
  ·subst h; rw [le_zero]; rfl
  ·rw [le_pos h]
   show (UInt8.ofNat n).toNat + 256 * vL (le (n / 256)) = n
   rw [ih _ (by omega), UInt8.toNat_ofNat']
   omega
theorem vL_app (b : List UInt8) (x : UInt8) : vL (b ++ [x]) = vL b + 256 ^ b.length * x.toNat := by
 induction b with
 | nil => simp [vL]
 | cons y r ih =>
  simp only [List.cons_append, vL, ih, List.length_cons, Nat.pow_succ]
  rw [Nat.mul_add, ← Nat.mul_assoc, Nat.mul_comm 256 (256 ^ r.length), Nat.add_assoc]
theorem vL_lt (b : List UInt8) : vL b < 256 ^ b.length := by
 induction b with
 | nil => simp [vL]
 | cons y r ih =>
  have := y.toNat_lt
  simp only [vL, List.length_cons, Nat.pow_succ]
  omega
theorem le_last {n : Nat} (h : n ≠ 0) : (le n).getLastD 0 ≠ 0 := by
 induction n using Nat.strongRecOn with
 | ind n ih =>
  rw [le_pos h]
  by_cases h1 : n / 256 = 0
  ·rw [h1, le_zero]
   show UInt8.ofNat n ≠ 0
   intro e
   have := congrArg UInt8.toNat e
   rw [UInt8.toNat_ofNat'] at this
   simp at this
   omega
  ·have := ih _ (by omega) h1
   rw [le_pos h1] at this ⊢
   simpa using this
theorem le_len {k : Nat} : ∀ {n : Nat}, n < 256 ^ k → (le n).length ≤ k := by
  induction k with
  | zero => intro n h; obtain rfl : n = 0 := by simpa using h
            rw [le_zero]; exact Nat.le_refl _
  | succ k ih =>
    intro n h
    by_cases h0 : n = 0
    · subst h0; rw [le_zero]; exact Nat.zero_le _
    · rw [le_pos h0]
      have := ih (n := n / 256) (by rw [Nat.pow_succ] at h; omega)
      simp; omega
theorem numV_num (n : Nat) : numV (num n) = n := by
 unfold numV num
 rw [List.reverse_reverse]
 unfold fixB
 split
 ·rw [vL_app, vL_le]; simp
 ·exact vL_le n
theorem numV_snoc (p : List UInt8) (x : UInt8) : numV (p ++ [x]) = numV p * 256 + x.toNat := by
 unfold numV
 rw [List.reverse_append]
 show vL (x :: p.reverse) = _
 simp only [vL]
 omega
theorem numV_cons (x : UInt8) (p : List UInt8) : numV (x :: p) = numV p + 256 ^ p.length * x.toNat := by
 unfold numV
 rw [List.reverse_cons, vL_app, List.length_reverse]
theorem numV_lt (p : List UInt8) : numV p < 256 ^ p.length := by
 have := vL_lt p.reverse
 rwa [List.length_reverse] at this
theorem IsNum.lt {p : List UInt8} (h : IsNum p) : numV p < 9223372036854775808 := by
 obtain ⟨h1, h2, h3, _⟩ := h
 match p, h1, h2, h3 with
 | x :: r, _, h2, h3 =>
  simp only [List.getD_cons_zero, List.length_cons] at h2 h3
  rw [numV_cons]
  have h4 := numV_lt r
  have h5 : 256 ^ r.length ≤ 256 ^ 7 := Nat.pow_le_pow_right (by decide) (by omega)
  have h6 : 256 ^ r.length * x.toNat ≤ 256 ^ r.length * 127 := Nat.mul_le_mul_left _ (by omega)
  have h7 : (256 : Nat) ^ 7 = 72057594037927936 := by decide
  omega
theorem IsNum_num {n : Nat} (hn : n ≤ 4611686018427387904) : IsNum (num n) := by
  by_cases h0 : n = 0
  · subst h0
    unfold num
    rw [le_zero]
    refine ⟨by decide, by decide, by decide, fun h => absurd h (by decide)⟩
  · have hlast := le_last h0
    have hlen : (le n).length ≤ 8 := le_len (Nat.lt_of_le_of_lt hn (by decide))
    have hv := vL_le n
    have hne : le n ≠ [] := by rw [le_pos h0]; exact List.cons_ne_nil _ _
    obtain ⟨q, x, hq⟩ : ∃ q x, le n = q ++ [x] := ⟨(le n).dropLast, (le n).getLast hne, (List.dropLast_concat_getLast hne).symm⟩
    rw [hq] at hlast hlen hv
    have hl : (q ++ [x]).getLastD 0 = x := by simp
    rw [hl] at hlast
    have hx0 : x.toNat ≠ 0 := fun e => hlast (UInt8.toNat_inj.1 e)
    rw [vL_app] at hv
    simp only [List.length_append, List.length_cons, List.length_nil] at hlen
    unfold num fixB
    rw [hq, hl]
    by_cases hx : 128 ≤ x.toNat
    · rw [if_pos (.inr hx)]
      have hql : q.length ≤ 6 := by
        rcases Nat.lt_or_ge 6 q.length with h | h
        · have : 256 ^ 7 ≤ 256 ^ q.length := Nat.pow_le_pow_right (by decide) h
          have h2 : 256 ^ q.length * 128 ≤ 256 ^ q.length * x.toNat := Nat.mul_le_mul_left _ hx
          have h7 : (256 : Nat) ^ 7 = 72057594037927936 := by decide
          omega
        · exact h
      have e : (q ++ [x] ++ [0]).reverse = 0 :: x :: q.reverse := by simp
      rw [e]
      refine ⟨by simp, by simp; omega, by simp, fun _ _ => by simpa using hx⟩
    · rw [if_neg (by rintro (e | e); · simp at e
                     · exact hx e)]
      have e : (q ++ [x]).reverse = x :: q.reverse := by simp
      rw [e]
      refine ⟨by simp, by simp; omega, by simp; omega, fun _ h => absurd (by simpa using h) hx0⟩
theorem num_len {n : Nat} (hn : n ≤ 4611686018427387904) : (num n).length ≤ 8 := (IsNum_num hn).2.1
theorem intS_num {n : Nat} (hn : n ≤ 4611686018427387904) (rest : List UInt8) : intS (wrapB 2 (num n) ++ rest) = some (n, rest) := by
 unfold intS
 rw [takeS_wrap 2 (by have := num_len hn; omega)]
 dsimp only
 rw [if_pos ⟨IsNum_num hn, by rw [numV_num]; exact hn⟩, numV_num]
end Go.Proofs.YtbalcgjphkdecaaGreatDoor.De
namespace Go.Proofs.YtbalcgjphkdecaaGreatDoor.De
open Go.RowKit Go.Lg
set_option maxRecDepth 100000
section
variable {P : Program} {ρ : Operand → Value} {d : Option Tmp} {ty : TypeId} {pos : String} {af : Array Edge} {gd : Option (Nat × Bool)} {W : World} {l : List Ent} {Ψ : Value → List Ent → Prop}
theorem y_shr8 {t yt : TypeId} {x y : Operand} {yk : IntKind} {a : Nat} (hx : ρ x = .int .i64 (a : Int)) (hy : ρ y = .int yk 8) :
  Yld P ⟨d, .binOp .shr t x y yt, ty, pos, af, gd⟩ ρ (.int .i64 ((a / 256 : Nat) : Int)) :=
 y_shr hx hy (by omega) (by
  rw [show min (8 : Int).toNat IntKind.i64.bits = 8 by decide, Int.fdiv_eq_ediv_of_nonneg _ (by decide)]
  norm_cast)
theorem e_bytes {t s e : TypeId} {x : Operand} [ht : SliceT P t e] [hu : IntT P e .u8] [hs : StrT P s] {bs : List UInt8} (hx : ρ x = .string (ba bs))
  (h : ∀ b k, Ψ (.slice (some ⟨b, 0, none⟩) bs.length (bs.length + k)) ((b, isC e (bs.map bv ++ List.replicate k (Value.int .u8 0))) :: l)) : Eff P W l ⟨d, .convert s t x, ty, pos, af, gd⟩ ρ Ψ := by
 intro w hw
 have hr := run_bytes_of_string (P := P) w s t e (ba bs) hs.h ht.h hu.h
 have hsz : (ba bs).size = bs.length := by simp [ba, ByteArray.size]
 rw [hsz] at hr
 obtain ⟨k, hk⟩ : ∃ k, grownCap w bs.length 0 e = bs.length + k := ⟨_, (Nat.add_sub_cancel' (grownCap_ge w bs.length 0 e)).symm⟩
 rw [hk] at hr
 have hrow : bytesRow (ba bs) (bs.length + k) = (bs.map bv ++ List.replicate k (Value.int .u8 0)).toArray := by
  unfold bytesRow
  rw [hsz, Nat.add_sub_cancel_left]
  simp [ba]
  intro a _
  rfl
 rw [hrow] at hr
 unfold OpW
 simp only [execOp, hx, Sem.run_bind, hr, Result.andThen_ok, Sem.run_pure]
 refine ⟨_, hw.drew.alloc _ (p := isC e (bs.map bv ++ List.replicate k (Value.int .u8 0))) ⟨_, rfl, .inr ?_⟩, h _ k⟩
 simp
end
attribute [local irreducible] JC JL JD RN RT Eff Yld YldIf Tr lenB wrapB num
theorem own_src {W : World} {e : TypeId} {n : Nat} {v : Value} {xs : List Value} {le : List Ent} (h : Lg.Own e 1 v n xs le) : ∃ A c, v = .slice A n c ∧ Src W le A xs ∧ n ≤ c ∧ (A = none → n = 0 ∧ c = 0) := by
 rcases h.2 with ⟨rfl, rfl, rfl⟩ | ⟨g, cap, rfl, h2, h3, rfl⟩
 ·have : xs = [] := List.eq_nil_of_length_eq_zero (by have := h.1; simpa using this)
  subst this
  exact ⟨none, 0, rfl, Src.nil .., Nat.le_refl _, fun _ => ⟨rfl, rfl⟩⟩
 ·exact ⟨_, cap, rfl, Src.whole (List.mem_singleton.2 rfl), h2, fun h => by cases h⟩
theorem own_none {e : TypeId} {A : Option Addr} {n c : Nat} {bs : List UInt8} {le : List Ent} (h : Lg.Own e 1 (.slice A n c) n (bs.map bv) le) (hA : A = none) : bs = [] := by
 subst hA
 rcases h.2 with ⟨_, h1, _⟩ | ⟨g, cap, h1, _⟩
 ·subst h1
  exact List.eq_nil_of_length_eq_zero (by have := h.1; simpa using this)
 ·cases h1
theorem own_some {e : TypeId} {sz : Nat} {v : Value} {n : Nat} {xs : List Value} {le : List Ent} (h : Lg.Own e sz v n xs le) (h0 : 0 < n) : ∃ g cap, v = .slice (some ⟨g, 0, none⟩) n cap ∧ n ≤ cap ∧ cap ≤ maxLen ∧ le = [(g, isR e (cap * sz) xs)] := by
 rcases h.2 with ⟨_, rfl, _⟩ | ⟨g, cap, rfl, h2, h3, rfl⟩
 ·omega
 ·exact ⟨g, cap, rfl, h2, h3, rfl⟩
theorem own_mk {e : TypeId} {b : Nat} {n : Nat} {xs : List Value} (hl : xs.length = n * 1) (hn : n ≤ maxLen) : Lg.Own e 1 (.slice (some ⟨b, 0, none⟩) n n) n xs [(b, isR e (n * 1) xs)] := ⟨hl, .inr ⟨b, n, rfl, Nat.le_refl _, hn, rfl⟩⟩
theorem bv_all (b : UInt8) : (bv b).cells.all (·.oneCell') = true := by simp [bv, Value.cells, Value.oneCell']
theorem rows1 {W : World} {r : List Ent} {b tot T : Nat} {A : Option Addr} {c : Nat} {xs : List UInt8} (hb : (b, isR T tot [.slice A xs.length c]) ∈ r) (hx : Src W r A (xs.map bv)) (hA : A = none → xs.length = 0 ∧ c = 0) : RowsAt W r (some ⟨b, 0, none⟩) [xs] := by
 refine ⟨_, rfl, Src.whole hb, fun i q h => ?_⟩
 match i, h with
 | 0, h => cases h; exact ⟨A, c, rfl, hx, hA⟩
theorem rows3 {W : World} {r : List Ent} {b tot T : Nat} {A B C : Option Addr} {c e g : Nat} {xs ys zs : List UInt8} (hb : (b, isR T tot [.slice A xs.length c, .slice B ys.length e, .slice C zs.length g]) ∈ r) (hx : Src W r A (xs.map bv)) (hA : A = none → xs.length = 0 ∧ c = 0)
  (hy : Src W r B (ys.map bv)) (hB : B = none → ys.length = 0 ∧ e = 0) (hz : Src W r C (zs.map bv)) (hC : C = none → zs.length = 0 ∧ g = 0) : RowsAt W r (some ⟨b, 0, none⟩) [xs, ys, zs] := by
 refine ⟨_, rfl, Src.whole hb, fun i q h => ?_⟩
 match i, h with
 | 0, h => cases h; exact ⟨A, c, rfl, hx, hA⟩
 | 1, h => cases h; exact ⟨B, e, rfl, hy, hB⟩
 | 2, h => cases h; exact ⟨C, g, rfl, hz, hC⟩
theorem Length_ok (n : Nat) {W : World} {r : List Ent} : Tr Pg 202 #[.int .i64 (n : Int)] W r fun v l' => ∃ le, Lg.Own 5 1 v (lenB n).length ((lenB n).map bv) le ∧ l' = le ++ r := by
 refine Tr.of_code (args := [_]) Tryz.func202 rfl Tryz.ntmps202 lE_ ?_
 by_cases h1 : n < 128
 ·have e : lenB n = [UInt8.ofNat n] := by unfold lenB; rw [if_pos h1]
  rw [e]
  repeat (first | refine JLp (y_conv8 rfl) ?_ | refine AS0 ?_)
  refine JLs (e_buildSlice (cells := [bv (UInt8.ofNat n)]) [bv (UInt8.ofNat n)] rfl lE_ rfl (by simp [bv, Value.cells]) rfl fun b => ?_)
  refine AU0 ?_
  exact JC.ret (RT.one rfl rfl rfl ⟨_, own_mk rfl (by unfold maxLen; decide), rfl⟩)
 by_cases h2 : n ≤ 255
 ·have e : lenB n = [129, UInt8.ofNat n] := by unfold lenB; rw [if_neg h1, if_pos h2]
  rw [e]
  repeat (first | refine JLp (y_conv8 rfl) ?_ | refine AS0 ?_)
  refine JLs (e_buildSlice (cells := [bv 129, bv (UInt8.ofNat n)]) [bv 129, bv (UInt8.ofNat n)] rfl lE_ rfl (by simp [bv, Value.cells]) rfl fun b => ?_)
  refine AU0 ?_
  exact JC.ret (RT.one rfl rfl rfl ⟨_, own_mk rfl (by unfold maxLen; decide), rfl⟩)
 ·have e : lenB n = [130, UInt8.ofNat (n / 256), UInt8.ofNat n] := by unfold lenB; rw [if_neg h1, if_neg h2]
  rw [e]
  repeat (first | refine JLp (y_shr8 rfl rfl) ?_ | refine JLp (y_conv8 rfl) ?_ | refine AS0 ?_)
  refine JLs (e_buildSlice (cells := [bv 130, bv (UInt8.ofNat (n / 256)), bv (UInt8.ofNat n)]) [bv 130, bv (UInt8.ofNat (n / 256)), bv (UInt8.ofNat n)] rfl lE_ rfl (by simp [bv, Value.cells]) rfl fun b => ?_)
  refine AU0 ?_
  exact JC.ret (RT.one rfl rfl rfl ⟨_, own_mk rfl (by unfold maxLen; decide), rfl⟩)
theorem lenB_le (n : Nat) : (lenB n).length ≤ 3 := by
 rw [lenB_len]
 split
 ·omega
 ·split <;> omega
set_option maxHeartbeats 1000000 in
/-- der's element of rows. -/
theorem Wrap_ok (tag : UInt8) {A : Option Addr} {n c : Nat} {bss : List (List UInt8)} {W : World} {r : List Ent} (hn : bss.length = n) (hn63 : n ≤ maxLen) (hr : RowsAt W r A bss) (htot : bss.flatten.length ≤ 35184372088832) :
  Tr Pg 146 #[bv tag, .slice A n c] W r fun v l' => ∃ le, Lg.Own 5 1 v (wrapB tag bss.flatten).length ((wrapB tag bss.flatten).map bv) le ∧ l' = le ++ r := by
 have h3 := lenB_le bss.flatten.length
 refine Tr.of_code (args := [_, _]) Tryz.func146 rfl Tryz.ntmps146 lE_ ?_
 refine AU0 ?_
 refine JLs (e_call rfl rfl (Concat_ok hn hn63 hr (by omega)) ?_)
 rintro v l' ⟨le1, ho1, rfl⟩
 obtain ⟨A1, c1, rfl, hs1, hc1, hn1⟩ := own_src (W := W) ho1
 generalize bss.flatten = ps at *
 refine AU0 ?_
 refine JLs (e_buildSlice (cells := [bv tag]) [bv tag] rfl lE_ rfl (by simp [bv, Value.cells]) rfl fun b => ?_)
 refine AU0 ?_
 refine JLs (e_call rfl rfl (Length_ok ps.length) ?_)
 rintro v l' ⟨le2, ho2, rfl⟩
 obtain ⟨A2, c2, rfl, hs2, hc2, hn2⟩ := own_src (W := W) ho2
 refine AU0 ?_
 refine JLs (e_buildSlice (cells := [.slice (some ⟨b, 0, none⟩) 1 1, .slice A2 (lenB ps.length).length c2, .slice A1 ps.length c1]) [.slice (some ⟨b, 0, none⟩) 1 1, .slice A2 (lenB ps.length).length c2, .slice A1 ps.length c1] rfl lE_ rfl (by simp [Value.cells]) rfl fun b2 => ?_)
 refine JLs (e_call rfl rfl (Concat_ok (bss := [[tag], lenB ps.length, ps]) rfl (by unfold maxLen; decide) (rows3 (xs := [tag]) (List.mem_cons_self ..) (Src.whole (T := 5) (tot := 1 * 1) (by simp)) (fun h => by cases h) (hs2.mono fun e he => by simp [he]) hn2 (hs1.mono fun e he => by simp [he]) hn1) (by simp; omega)) ?_)
 have e : [[tag], lenB ps.length, ps].flatten = wrapB tag ps := by unfold wrapB; simp
 rw [e]
 rintro v l' ⟨le3, ho3, rfl⟩
 refine AU0 ?_
 refine JC.sub (l' := le3 ++ r) (List.Sublist.append_left (((List.sublist_append_right _ _).trans (List.sublist_cons_self _ _)).trans ((List.sublist_append_right _ _).trans (List.sublist_cons_self _ _))) _) ?_
 exact JC.ret (RT.one rfl rfl (by conv => lhs; whnf) ⟨le3, ho3, rfl⟩)
theorem Octets_ok {A : Option Addr} {n c : Nat} {ps : List UInt8} {W : World} {r : List Ent} (hl : ps.length = n) (hm : n ≤ 35184372088832) (hA : A = none → n = 0 ∧ c = 0) (hs : Src W r A (ps.map bv)) :
  Tr Pg 158 #[.slice A n c] W r fun v l' => ∃ le, Lg.Own 5 1 v (wrapB 4 ps).length ((wrapB 4 ps).map bv) le ∧ l' = le ++ r := by
 subst hl
 refine Tr.of_code (args := [_]) Tryz.func158 rfl Tryz.ntmps158 lE_ ?_
 refine AU0 ?_
 refine JLs (e_buildSlice (cells := [.slice A ps.length c]) [.slice A ps.length c] rfl lE_ rfl (by simp [Value.cells]) rfl fun b => ?_)
 refine JLs (e_call rfl rfl (Wrap_ok 4 (bss := [ps]) rfl (by unfold maxLen; decide) (rows1 (List.mem_cons_self ..) (hs.mono fun e he => by simp [he]) hA) (by simpa using hm)) ?_)
 rw [show [ps].flatten = ps by simp]
 rintro v l' ⟨le1, ho1, rfl⟩
 refine AU0 ?_
 refine JC.sub (l' := le1 ++ r) (List.Sublist.append_left (List.sublist_cons_self _ _) _) ?_
 exact JC.ret (RT.one rfl rfl (by conv => lhs; whnf) ⟨le1, ho1, rfl⟩)
theorem Text_ok {ps : List UInt8} {W : World} {r : List Ent} (hm : ps.length ≤ 35184372088832) :
  Tr Pg 203 #[.string (ba ps)] W r fun v l' => ∃ le, Lg.Own 5 1 v (wrapB 27 ps).length ((wrapB 27 ps).map bv) le ∧ l' = le ++ r := by
 refine Tr.of_code (args := [_]) Tryz.func203 rfl Tryz.ntmps203 lE_ ?_
 refine AU0 ?_
 refine JLs (e_bytes rfl fun b k => ?_)
 refine JLs (e_buildSlice (cells := [.slice (some ⟨b, 0, none⟩) ps.length (ps.length + k)]) [.slice (some ⟨b, 0, none⟩) ps.length (ps.length + k)] rfl lE_ rfl (by simp [Value.cells]) rfl fun b2 => ?_)
 refine JLs (e_call rfl rfl (Wrap_ok 27 (bss := [ps]) rfl (by unfold maxLen; decide) (rows1 (List.mem_cons_self ..) (Src.cells (List.mem_cons_of_mem _ (List.mem_cons_self ..)) 0 (fun j u h => by rw [Nat.zero_add, List.getElem?_append_left (List.getElem?_eq_some_iff.1 h).1]; exact h)) (fun h => by cases h)) (by simpa using hm)) ?_)
 rw [show [ps].flatten = ps by simp]
 rintro v l' ⟨le1, ho1, rfl⟩
 refine AU0 ?_
 refine JC.sub (l' := le1 ++ r) (List.Sublist.append_left ((List.sublist_cons_self _ _).trans (List.sublist_cons_self _ _)) _) ?_
 exact JC.ret (RT.one rfl rfl (by conv => lhs; whnf) ⟨le1, ho1, rfl⟩)
end Go.Proofs.YtbalcgjphkdecaaGreatDoor.De
namespace Go.Proofs.YtbalcgjphkdecaaGreatDoor.De
open Go.RowKit Go.Lg
set_option maxRecDepth 100000
attribute [local irreducible] JC JL JD RN RT Eff Yld YldIf Tr lenB wrapB num
def revP (bs : List UInt8) (i : Nat) : List UInt8 := (List.range bs.length).map fun k => if k < i ∨ bs.length ≤ k + i then bs.getD (bs.length - 1 - k) 0 else bs.getD k 0
theorem revP_len (bs : List UInt8) (i : Nat) : (revP bs i).length = bs.length := by simp [revP]
theorem revP_get (bs : List UInt8) (i k : Nat) (h : k < bs.length) : (revP bs i)[k]? = some (if k < i ∨ bs.length ≤ k + i then bs.getD (bs.length - 1 - k) 0 else bs.getD k 0) := by
 unfold revP
 rw [List.getElem?_map, List.getElem?_range h]
 rfl
theorem revP_zero (bs : List UInt8) : revP bs 0 = bs := by
 apply List.ext_getElem?
 intro k
 by_cases h : k < bs.length
 ·rw [revP_get bs 0 k h, if_neg (by omega), List.getElem?_eq_getElem h]
  simp [List.getD, List.getElem?_eq_getElem h]
 ·rw [List.getElem?_eq_none (by rw [revP_len]; omega), List.getElem?_eq_none (by omega)]
theorem revP_end (bs : List UInt8) (i : Nat) (h : bs.length ≤ 2 * i + 1) : revP bs i = bs.reverse := by
 apply List.ext_getElem?
 intro k
 by_cases hk : k < bs.length
 ·rw [revP_get bs i k hk, List.getElem?_reverse hk, List.getElem?_eq_getElem (by omega)]
  congr 1
  by_cases h1 : k < i ∨ bs.length ≤ k + i
  ·rw [if_pos h1]
   simp [List.getD, List.getElem?_eq_getElem (show bs.length - 1 - k < bs.length by omega)]
  ·rw [if_neg h1]
   have : bs.length - 1 - k = k := by omega
   simp [List.getD, List.getElem?_eq_getElem hk, this]
 ·rw [List.getElem?_eq_none (by rw [revP_len]; omega), List.getElem?_eq_none (by simp; omega)]
theorem revP_step {bs : List UInt8} {i : Nat} (h : i + 1 + i < bs.length) : ((revP bs i).set i (bs.getD (bs.length - 1 - i) 0)).set (bs.length - 1 - i) (bs.getD i 0) = revP bs (i + 1) := by
 apply List.ext_getElem?
 intro k
 by_cases hk : k < bs.length
 ·rw [revP_get bs (i + 1) k hk, List.getElem?_set, List.getElem?_set, revP_get bs i k hk]
  simp only [List.length_set, revP_len]
  by_cases h1 : bs.length - 1 - i = k
  ·rw [if_pos h1, if_pos (by omega), if_pos (by omega)]
   congr 2; omega
  ·rw [if_neg h1]
   by_cases h2 : i = k
   ·rw [if_pos h2, if_pos (by omega), if_pos (by omega), h2]
   ·rw [if_neg h2]
    congr 1
    by_cases h3 : k < i ∨ bs.length ≤ k + i
    ·rw [if_pos h3, if_pos (by omega)]
    ·rw [if_neg h3, if_neg (by omega)]
 ·rw [List.getElem?_eq_none (by rw [List.length_set, List.length_set, revP_len]; omega), List.getElem?_eq_none (by rw [revP_len]; omega)]
theorem set_bv (xs : List UInt8) {j : Nat} (hj : j < xs.length) (x : UInt8) : (xs.map bv).take (0 + j * 1) ++ (bv x).cells.toList ++ (xs.map bv).drop (0 + j * 1 + 1) = (xs.set j x).map bv := by
 rw [List.set_eq_take_append_cons_drop, if_pos hj, Nat.mul_one, Nat.zero_add]
 simp [List.map_take, List.map_drop, bv, Value.cells]
theorem e_storeB {P : Program} {ρ : Operand → Value} {d : Option Tmp} {ty : TypeId} {pos : String} {af : Array Edge} {gd : Option (Nat × Bool)} {W : World} {l : List Ent} {Ψ : Value → List Ent → Prop} {t T : TypeId} {x y : Operand} {b j tot : Nat} {xs : List UInt8} {u : UInt8} (i : Nat) (he : l[i]? = some (b, isR T tot (xs.map bv))) [hs : Sz P t 1]
  (hx : ρ x = .pointer (some ⟨b, 0 + j * 1, none⟩)) (hy : ρ y = bv u) (hj : j < xs.length) (h : Ψ undef (l.set i (b, isR T tot ((xs.set j u).map bv)))) : Eff P W l ⟨d, .store t x y, ty, pos, af, gd⟩ ρ Ψ :=
 e_storeR (n := 1) i he hx hy rfl (bv_all _) (by rw [List.length_map]; omega) (by rw [set_bv xs hj]; exact h)
set_option maxHeartbeats 2000000 in
theorem Reverse_ok {g n cap tot : Nat} {bs : List UInt8} {W : World} {r : List Ent} (hl : bs.length = n) (h0 : 0 < n) (hm : n ≤ 35184372088832) :
  Tr Pg 204 #[.slice (some ⟨g, 0, none⟩) n cap] W ((g, isR 5 tot (bs.map bv)) :: r) fun _ l' => l' = (g, isR 5 tot (bs.reverse.map bv)) :: r := by
 refine Tr.of_code (args := [_]) Tryz.func204 rfl Tryz.ntmps204 lE_ ?_
 refine AU0 ?_
 refine JC.loop (fun m f l => ∃ (i : Nat) (jj : Int), 2 * i ≤ n ∧ i + m = n ∧ jj = (n : Int) - 1 - i ∧ FrOk f [(0, .slice (some ⟨g, 0, none⟩) n cap), (2, .int .i64 (i : Int)), (3, .int .i64 jj)] ∧ l = (g, isR 5 tot ((revP bs i).map bv)) :: r) n ?_ ?_
 ·exact ⟨0, _, by omega, by omega, by omega, ⟨rfl, rfl, rfl, trivial⟩, by rw [revP_zero]⟩
 rintro m f l ⟨i, jj, hi, hm', hjj, hf, rfl⟩
 refine JC.frame _ hf fun f' => ?_
 by_cases hij : (i : Int) < jj
 ·obtain rfl : jj = ((n - 1 - i : Nat) : Int) := by omega
  have hgi : ((revP bs i).map bv)[0 + i * 1]? = some (bv (bs.getD i 0)) := by
   rw [Nat.mul_one, Nat.zero_add, List.getElem?_map, revP_get bs i i (by omega), if_neg (by omega)]; rfl
  have hgj : ((revP bs i).map bv)[0 + (n - 1 - i) * 1]? = some (bv (bs.getD (n - 1 - i) 0)) := by
   rw [Nat.mul_one, Nat.zero_add, List.getElem?_map, revP_get bs i (n - 1 - i) (by omega), if_neg (by omega)]; rfl
  have hrl := revP_len bs i
  refine AU0 ?_
  refine JC.drawn 16 rfl mixed ?_
  refine JDp 0 rfl y_mv ?_
  refine JDp 1 rfl y_mv ?_
  refine JDp 2 rfl y_mv ?_
  refine JDp 3 rfl y_mv ?_
  refine JDp 4 rfl y_mv ?_
  refine JDp 5 rfl y_mv ?_
  refine JDp 6 rfl (y_index rfl rfl (by omega)) ?_
  refine JDp 8 rfl y_mv ?_
  refine JDp 9 rfl y_mv ?_
  refine JDp 10 rfl (y_index rfl rfl (by omega)) ?_
  refine JDr 7 0 rfl rfl (r_loadR1 (v := bv (bs.getD (n - 1 - i) 0)) rfl hgj) ?_
  refine JDr 11 0 rfl rfl (r_loadR1 (v := bv (bs.getD i 0)) rfl hgi) ?_
  refine JDp 12 rfl (y_index rfl rfl (by omega)) ?_
  refine JDe 13 rfl (e_storeB (j := i) (u := bs.getD (n - 1 - i) 0) 0 rfl rfl rfl (by omega) ⟨tok_, ?_⟩)
  refine JDp 14 rfl (y_index rfl rfl (by omega)) ?_
  refine JDe 15 rfl (e_storeB (j := n - 1 - i) (u := bs.getD i 0) 0 rfl rfl rfl (by rw [List.length_set]; omega) ⟨tok_, ?_⟩)
  refine JDd ?_
  refine AU0 ?_
  refine RN.loop (m' := m - 1) (by omega) ⟨i + 1, _, by omega, by omega, ?_, ⟨rfl, rfl, rfl, trivial⟩, ?_⟩
  ·omega
  ·rw [← revP_step (by omega), hl]; rfl
 ·refine AU0 ?_
  rw [revP_end bs i (by omega)]
  exact RN.none rfl rfl
end Go.Proofs.YtbalcgjphkdecaaGreatDoor.De
namespace Go.Proofs.YtbalcgjphkdecaaGreatDoor.De
open Go.RowKit Go.Lg
set_option maxRecDepth 100000
theorem num_eq (n : Nat) : num n = (fixB (le n)).reverse := by unfold num; rfl
attribute [local irreducible] JC JL JD RN RT Eff Yld YldIf Tr lenB wrapB num
theorem le_bound {b : List UInt8} {m N : Nat} (h : b ++ le m = le N) (hN : N ≤ 4611686018427387904) : b.length ≤ 8 := by
 have h1 := congrArg List.length h
 have h2 : (le N).length ≤ 8 := le_len (Nat.lt_of_le_of_lt hN (by decide))
 rw [List.length_append] at h1
 omega
theorem last_at {b : List UInt8} (h : b ≠ []) : (b.map bv)[0 + (b.length - 1) * 1]? = some (bv (b.getLastD 0)) := by
 obtain ⟨q, x, rfl⟩ : ∃ q x, b = q ++ [x] := ⟨b.dropLast, b.getLast h, (List.dropLast_concat_getLast h).symm⟩
 simp
set_option maxHeartbeats 4000000 in
theorem Int_ok (n : Int) {W : World} {r : List Ent} : Tr Pg 148 #[.int .i64 n] W r fun v l' => ∃ le1, Lg.Own 5 1 v (wrapB 2 (num (clampI n))).length ((wrapB 2 (num (clampI n))).map bv) le1 ∧ l' = le1 ++ r := by
 refine Tr.of_code (args := [_]) Tryz.func148 rfl Tryz.ntmps148 lE_ ?_
 have hmax : (if (0 : Int) > n then 0 else n) = max n 0 := by split <;> omega
 have hmin : (if (4611686018427387904 : Int) < max n 0 then (4611686018427387904 : Int) else max n 0) = ((clampI n : Nat) : Int) := by unfold clampI; split <;> omega
 have hN := clampI_le n
 generalize clampI n = N at *
 repeat (first | refine JLp (y_max rfl rfl hmax) ?_ | refine JLp (y_min rfl rfl hmin) ?_ | refine AS0 ?_)
 refine JC.loop (fun m f l => ∃ v b le1, FrOk f [(0, .int .i64 (m : Int)), (3, v)] ∧ Lg.Own 5 1 v b.length (b.map bv) le1 ∧ b ++ le m = le N ∧ m ≤ N ∧ l = le1 ++ r) N ?_ ?_
 ·exact ⟨_, [], [], ⟨rfl, rfl, trivial⟩, Lg.Own.nil .., rfl, Nat.le_refl _, rfl⟩
 rintro m f l ⟨v, b, le1, hf, ho, hb, hmN, rfl⟩
 refine JC.frame _ hf fun f' => ?_
 have hbl := le_bound hb hN
 by_cases h0 : m = 0
 ·subst h0
  rw [le_zero, List.append_nil] at hb
  by_cases hb0 : b = []
  ·subst hb0
   have ho0 : Lg.Own 5 1 v 0 [] le1 := ho
   clear ho
   obtain ⟨A0, c0, rfl, -, -, -⟩ := own_src (W := W) ho0
   have hnum : num N = [0] := by
    rw [num_eq, ← hb]; rfl
   refine AU0 ?_
   refine JLs (e_buildSlice (cells := [bv 0]) [bv 0] rfl lE_ rfl (by simp [bv, Value.cells]) rfl fun b29 => ?_)
   refine JLs (e_appendP [(b29, isR 5 (1 * 1) [bv 0])] le1 (r := r) rfl rfl ho0 rfl (news := [bv 0]) rfl (Src.whole (List.mem_cons_self ..)) (bv_one [0]) (by omega) (by unfold maxLen; omega) fun v2 le2 ho2 _ => ?_)
   have ho2' : Lg.Own 5 1 v2 1 (([0] : List UInt8).map bv) le2 := ho2
   obtain ⟨g, cap, rfl, h11, h12, rfl⟩ := own_some ho2' (by omega)
   refine AU0 ?_
   refine JLs (e_call rfl rfl (Tr.perm (l' := (g, isR 5 (cap * 1) (([0] : List UInt8).map bv)) :: ((b29, isR 5 (1 * 1) [bv 0]) :: r)) prm_ (Reverse_ok (bs := [0]) rfl (by decide) (by decide))) ?_)
   rintro v l' rfl
   refine AU0 ?_
   refine JLs (e_buildSlice (cells := [.slice (some ⟨g, 0, none⟩) 1 cap]) [.slice (some ⟨g, 0, none⟩) 1 cap] rfl lE_ rfl (by simp [Value.cells]) rfl fun b34 => ?_)
   refine JLs (e_call rfl rfl (Wrap_ok 2 (bss := [[0]]) rfl (by unfold maxLen; decide) (rows1 (xs := [0]) (List.mem_cons_self ..) (Src.whole (T := 5) (tot := cap * 1) (by simp)) (fun h => by cases h)) (by simp)) ?_)
   rw [hnum]
   rintro v l' ⟨le3, ho3, rfl⟩
   refine AU0 ?_
   refine JC.sub (l' := le3 ++ r) (List.Sublist.append_left (((List.sublist_cons_self _ _).trans (List.sublist_cons_self _ _)).trans (List.sublist_cons_self _ _)) _) ?_
   exact JC.ret (RT.one rfl rfl (by conv => lhs; whnf) ⟨le3, ho3, rfl⟩)
  ·have hpos : 0 < b.length := List.length_pos_iff.2 hb0
   obtain ⟨g1, cap1, rfl, h11, h12, rfl⟩ := own_some ho hpos
   have hat := last_at hb0
   have hidx : ((b.length : Int) - 1) = ((b.length - 1 : Nat) : Int) := by omega
   by_cases hh : 128 ≤ (b.getLastD 0).toNat
   ·obtain ⟨bb, hbb⟩ : ∃ bb : List UInt8, bb = b ++ [0] := ⟨_, rfl⟩
    have hbbl : bb.length = b.length + 1 := by rw [hbb]; simp
    have hnum : num N = bb.reverse := by
     rw [hbb]
     rw [num_eq, ← hb]; unfold fixB; rw [if_pos (.inr hh)]
    repeat (first | refine JLp (y_sub rfl rfl (c := ((b.length - 1 : Nat) : Int)) (by rw [wrap_add (by omega) (by omega)]; omega)) ?_ | refine AS0 ?_)
    refine JL.read 0 rfl rfl (r_loadR1 (v := bv (b.getLastD 0)) rfl hat) ?_
    repeat (first | refine JLp (y_geq rfl rfl (r := true) (decide_eq_true (by exact_mod_cast hh))) ?_ | refine AS0 ?_)
    refine JLs (e_buildSlice (cells := [bv 0]) [bv 0] rfl lE_ rfl (by simp [bv, Value.cells]) rfl fun b29 => ?_)
    refine JLs (e_appendP [(b29, isR 5 (1 * 1) [bv 0])] [(g1, isR 5 (cap1 * 1) (b.map bv))] (r := r) rfl rfl ho rfl (news := [bv 0]) rfl (Src.whole (List.mem_cons_self ..)) (bv_one [0]) (by omega) (by unfold maxLen; omega) fun v2 le2 ho2 _ => ?_)
    rw [show b.map bv ++ [bv 0] = bb.map bv by rw [hbb]; simp] at ho2
    obtain ⟨g, cap, rfl, h21, h22, rfl⟩ := own_some ho2 (by omega)
    refine AU0 ?_
    refine JLs (e_call rfl rfl (Tr.perm (l' := (g, isR 5 (cap * 1) (bb.map bv)) :: ((b29, isR 5 (1 * 1) [bv 0]) :: r)) prm_ (Reverse_ok hbbl (by omega) (by omega))) ?_)
    rw [← hnum]
    have hnl : (num N).length = b.length + 1 := by rw [hnum, List.length_reverse, hbbl]
    rintro v l' rfl
    refine AU0 ?_
    refine JLs (e_buildSlice (cells := [.slice (some ⟨g, 0, none⟩) (b.length + 1) cap]) [.slice (some ⟨g, 0, none⟩) (b.length + 1) cap] rfl lE_ rfl (by simp [Value.cells]) rfl fun b34 => ?_)
    refine JLs (e_call rfl rfl (Wrap_ok 2 (bss := [num N]) rfl (by unfold maxLen; decide) (rows1 (b := b34) (tot := 1 * 1) (c := cap) (by rw [hnl]; exact List.mem_cons_self ..) (Src.whole (T := 5) (tot := cap * 1) (by simp)) (fun h => by cases h)) (by simp; omega)) ?_)
    rw [show [num N].flatten = num N by simp]
    rintro v l' ⟨le3, ho3, rfl⟩
    refine AU0 ?_
    refine JC.sub (l' := le3 ++ r) (List.Sublist.append_left (((List.sublist_cons_self _ _).trans (List.sublist_cons_self _ _)).trans (List.sublist_cons_self _ _)) _) ?_
    exact JC.ret (RT.one rfl rfl (by conv => lhs; whnf) ⟨le3, ho3, rfl⟩)
   ·have hnum : num N = b.reverse := by
     rw [num_eq, ← hb]; unfold fixB; rw [if_neg (fun e => e.elim hb0 hh)]
    repeat (first | refine JLp (y_sub rfl rfl (c := ((b.length - 1 : Nat) : Int)) (by rw [wrap_add (by omega) (by omega)]; omega)) ?_ | refine AS0 ?_)
    refine JL.read 0 rfl rfl (r_loadR1 (v := bv (b.getLastD 0)) rfl hat) ?_
    repeat (first | refine JLp (y_geq rfl rfl (r := false) (decide_eq_false (fun h => hh (by exact_mod_cast h)))) ?_ | refine AS0 ?_)
    refine JLs (e_call rfl rfl (Reverse_ok (bs := b) rfl hpos (by omega)) ?_)
    rw [← hnum]
    have hnl : (num N).length = b.length := by rw [hnum]; simp
    rintro v l' rfl
    refine AU0 ?_
    refine JLs (e_buildSlice (cells := [.slice (some ⟨g1, 0, none⟩) b.length cap1]) [.slice (some ⟨g1, 0, none⟩) b.length cap1] rfl lE_ rfl (by simp [Value.cells]) rfl fun b34 => ?_)
    refine JLs (e_call rfl rfl (Wrap_ok 2 (bss := [num N]) rfl (by unfold maxLen; decide) (rows1 (b := b34) (tot := 1 * 1) (c := cap1) (by rw [hnl]; exact List.mem_cons_self ..) (Src.whole (T := 5) (tot := cap1 * 1) (by simp)) (fun h => by cases h)) (by simp; omega)) ?_)
    rw [show [num N].flatten = num N by simp]
    rintro v l' ⟨le3, ho3, rfl⟩
    refine AU0 ?_
    refine JC.sub (l' := le3 ++ r) (List.Sublist.append_left ((List.sublist_cons_self _ _).trans (List.sublist_cons_self _ _)) _) ?_
    exact JC.ret (RT.one rfl rfl (by conv => lhs; whnf) ⟨le3, ho3, rfl⟩)
 ·repeat (first | refine JLp (y_conv8 rfl) ?_ | refine AS0 ?_)
  refine JLs (e_buildSlice (cells := [bv (UInt8.ofNat m)]) [bv (UInt8.ofNat m)] rfl lE_ rfl (by simp [bv, Value.cells]) rfl fun b14 => ?_)
  refine JLs (e_appendP [(b14, isR 5 (1 * 1) [bv (UInt8.ofNat m)])] le1 (r := r) rfl rfl ho rfl (news := [bv (UInt8.ofNat m)]) rfl (Src.whole (List.mem_cons_self ..)) (bv_one [_]) (by omega) (by unfold maxLen; omega) fun v2 le2 ho2 _ => ?_)
  rw [show b.map bv ++ [bv (UInt8.ofNat m)] = (b ++ [UInt8.ofNat m]).map bv by simp] at ho2
  refine JL.sub (l' := le2 ++ r) (List.sublist_cons_self _ _) ?_
  repeat (first | refine JLp (y_shr8 rfl rfl) ?_ | refine AS0 ?_)
  refine RN.loop (m' := m / 256) (by omega) ⟨_, b ++ [UInt8.ofNat m], le2, ⟨rfl, rfl, trivial⟩, by rw [List.length_append]; exact ho2, ?_, by omega, rfl⟩
  rw [← hb, le_pos h0, List.append_assoc]; rfl
end Go.Proofs.YtbalcgjphkdecaaGreatDoor.De

namespace Go.Proofs.YtbalcgjphkdecaaGreatDoor.De
open Go.RowKit Go.Lg
set_option maxRecDepth 100000
attribute [local irreducible] JC JL JD RN RT Eff Yld YldIf Tr lenB wrapB num
def ptr (b : Nat) : Value := .pointer (some ⟨b, 0, none⟩)
theorem y_shl8 {P : Program} {ρ : Operand → Value} {d : Option Tmp} {ty : TypeId} {pos : String} {af : Array Edge} {gd : Option (Nat × Bool)} {t yt : TypeId} {x y : Operand} {yk : IntKind} {a : Nat} (hx : ρ x = .int .i64 (a : Int)) (hy : ρ y = .int yk 8) (ha : a < 36028797018963968) :
  Yld P ⟨d, .binOp .shl t x y yt, ty, pos, af, gd⟩ ρ (.int .i64 ((a * 256 : Nat) : Int)) :=
 y_shl hx hy (by omega) (by
  rw [show (2 : Int) ^ (min (8 : Int).toNat IntKind.i64.bits) = 256 by decide, wrap_add (by omega) (by omega)]
  exact (Int.natCast_mul a 256).symm)
theorem look_ld {W : World} {r : List Ent} {b o : Nat} {xs : List Value} {S : Option Ent} (hS : ∀ e, S = some e → e ∈ r) (hc : ∀ j u, xs[j]? = some u → ∀ w, (TS W ([], S)).2 w → w.cell? ⟨b, o + j, none⟩ = some u) {j : Nat} {u : Value} (hu : xs[j]? = some u) :
  ∀ l : List Ent, (∀ e ∈ r, e ∈ l) → ∀ w, SH W l w → w.cell? ⟨b, o + j * 1, none⟩ = some u := fun l hr w hw => by
 rw [Nat.mul_one]
 exact hc j u hu w (TS_of hS hr w hw)
theorem getD_bv {b : List UInt8} {j : Nat} (h : j < b.length) : (b.map bv)[j]? = some (bv (b.getD j 0)) := by
 simp [List.getD, List.getElem?_eq_getElem h]
theorem x_lt (x : UInt8) : x.toNat < 256 := x.toNat_lt
def headV (b : List UInt8) : Value := match headS b with
 | some (k, m) => .tuple #[.int .i64 (k : Int), .int .i64 (m : Int), .bool true]
 | none => .tuple #[.int .i64 0, .int .i64 0, .bool false]
set_option maxHeartbeats 4000000 in
theorem head_ok {A : Option Addr} {n c : Nat} {b : List UInt8} {W : World} {r : List Ent} (hl : b.length = n) (hm : n ≤ 35184372088832) (hs : Src W r A (b.map bv)) :
  Tr Pg 246 #[.slice A n c] W r fun v l' => v = headV b ∧ l' = r := by
 refine Tr.of_code (args := [_]) Tryz.func246 rfl Tryz.ntmps246 lE_ ?_
 have hx0 := x_lt (b.getD 0 0)
 have hx1 := x_lt (b.getD 1 0)
 have hx2 := x_lt (b.getD 2 0)
 by_cases n1 : 1 ≤ n
 ·obtain ⟨a, o, rfl, S, hS, hc⟩ := hs.look (by simp; omega)
  have h0 := look_ld hS hc (getD_bv (show 0 < b.length by omega))
  by_cases q0 : (b.getD 0 0).toNat < 128
  ·have e : headV b = .tuple #[.int .i64 ((1 : Nat) : Int), .int .i64 (((b.getD 0 0).toNat : Nat) : Int), .bool true] := by
    unfold headV headS; rw [if_pos ⟨by omega, q0⟩]
   rw [e]
   repeat (first | refine JLs (e_loadS rfl (h0 _ (fun e he => he)) ?_) | refine AS0 ?_)
   refine JC.drawn 7 rfl mixed ?_
   refine JDp 0 rfl y_mv ?_
   refine JDp 1 rfl (y_index (j := 0) rfl rfl (by omega)) ?_
   refine JDp 4 rfl y_as ?_
   refine JD.readS 2 S r rfl (by kernel_rfl) (by kernel_rfl) rfl hS (fun e he => he) (y_loadIf (v := bv (b.getD 0 0)) rfl fun w hw => hc 0 _ (getD_bv (by omega)) w hw) ?_
   refine JDe 3 rfl (.pure (y_conv (c := ((b.getD 0 0).toNat : Int)) rfl (wrap_add (by omega) (by omega))) ⟨(by first | exact TOk.opt hS TOk.nil | exact TOk.past (by decide +kernel) TOk.nil | exact TOk.nil), ?_⟩)
   refine JDp 5 rfl y_as ?_
   refine JDp 6 rfl y_as ?_
   refine JDd ?_
   refine AU0 ?_
   exact JC.ret (RT.three rfl rfl rfl rfl rfl ⟨rfl, rfl⟩)
  by_cases n2 : 2 ≤ n
  ·have h1 := look_ld hS hc (getD_bv (show 1 < b.length by omega))
   by_cases q1 : (b.getD 0 0).toNat = 129
   ·by_cases q2 : 128 ≤ (b.getD 1 0).toNat
    ·have e : headV b = .tuple #[.int .i64 ((2 : Nat) : Int), .int .i64 (((b.getD 1 0).toNat : Nat) : Int), .bool true] := by
      unfold headV headS; rw [if_neg (fun h => q0 h.2), if_pos ⟨by omega, q1, q2⟩]
     rw [e]
     repeat (first | refine JLs (e_loadS rfl (h0 _ (fun e he => he)) ?_) | refine JLs (e_loadS rfl (h1 _ (fun e he => he)) ?_) | refine JLp (y_index (j := 1) rfl rfl (by omega)) ?_ | refine AS0 ?_)
     refine JC.drawn 7 rfl mixed ?_
     refine JDp 0 rfl y_mv ?_
     refine JDp 1 rfl (y_index (j := 1) rfl rfl (by omega)) ?_
     refine JDp 4 rfl y_as ?_
     refine JD.readS 2 S r rfl (by kernel_rfl) (by kernel_rfl) rfl hS (fun e he => he) (y_loadIf (v := bv (b.getD 1 0)) rfl fun w hw => hc 1 _ (getD_bv (by omega)) w hw) ?_
     refine JDe 3 rfl (.pure (y_conv (c := ((b.getD 1 0).toNat : Int)) rfl (wrap_add (by omega) (by omega))) ⟨(by first | exact TOk.opt hS TOk.nil | exact TOk.past (by decide +kernel) TOk.nil | exact TOk.nil), ?_⟩)
     refine JDp 5 rfl y_as ?_
     refine JDp 6 rfl y_as ?_
     refine JDd ?_
     refine AU0 ?_
     exact JC.ret (RT.three rfl rfl rfl rfl rfl ⟨rfl, rfl⟩)
    ·have e : headV b = .tuple #[.int .i64 0, .int .i64 0, .bool false] := by
      unfold headV headS; rw [if_neg (fun h => q0 h.2), if_neg (fun h => q2 h.2.2), if_neg (fun h => by have := h.2.1; omega)]
     rw [e]
     by_cases n3 : 3 ≤ n
     ·repeat (first | refine JLs (e_loadS rfl (h0 _ (fun e he => he)) ?_) | refine JLs (e_loadS rfl (h1 _ (fun e he => he)) ?_) | refine JLp (y_index (j := 1) rfl rfl (by omega)) ?_ | refine AS0 ?_)
      exact JC.ret (RT.three rfl rfl rfl rfl rfl ⟨rfl, rfl⟩)
     ·repeat (first | refine JLs (e_loadS rfl (h0 _ (fun e he => he)) ?_) | refine JLs (e_loadS rfl (h1 _ (fun e he => he)) ?_) | refine JLp (y_index (j := 1) rfl rfl (by omega)) ?_ | refine AS0 ?_)
      exact JC.ret (RT.three rfl rfl rfl rfl rfl ⟨rfl, rfl⟩)
   by_cases n3 : 3 ≤ n
   ·by_cases q3 : (b.getD 0 0).toNat = 130
    ·by_cases q4 : 0 < (b.getD 1 0).toNat
     ·have e : headV b = .tuple #[.int .i64 ((3 : Nat) : Int), .int .i64 ((((b.getD 1 0).toNat * 256 + (b.getD 2 0).toNat : Nat)) : Int), .bool true] := by
       unfold headV headS; rw [if_neg (fun h => q0 h.2), if_neg (fun h => q1 h.2.1), if_pos ⟨by omega, q3, q4⟩]
      rw [e]
      repeat (first | refine JLs (e_loadS rfl (h0 _ (fun e he => he)) ?_) | refine JLs (e_loadS rfl (h1 _ (fun e he => he)) ?_) | refine JLp (y_index (j := 1) rfl rfl (by omega)) ?_ | refine AS0 ?_)
      refine JC.drawn 13 rfl mixed ?_
      refine JDp 0 rfl y_mv ?_
      refine JDp 1 rfl (y_index (j := 1) rfl rfl (by omega)) ?_
      refine JDp 5 rfl y_mv ?_
      refine JDp 6 rfl (y_index (j := 2) rfl rfl (by omega)) ?_
      refine JDp 10 rfl y_as ?_
      refine JD.readS 2 S r rfl (by kernel_rfl) (by kernel_rfl) rfl hS (fun e he => he) (y_loadIf (v := bv (b.getD 1 0)) rfl fun w hw => hc 1 _ (getD_bv (by omega)) w hw) ?_
      refine JD.readS 7 S r rfl (by kernel_rfl) (by kernel_rfl) rfl hS (fun e he => he) (y_loadIf (v := bv (b.getD 2 0)) rfl fun w hw => hc 2 _ (getD_bv (by omega)) w hw) ?_
      have hcv : ∀ (x : UInt8), IntKind.i64.wrap (x.toNat : Int) = (x.toNat : Int) := fun x => by have := x_lt x; exact wrap_add (by omega) (by omega)
      refine JD.eff2 3 8 (by kernel_rfl) rfl rfl rfl rfl (.pure (y_conv rfl (hcv _)) ⟨(by first | exact TOk.opt hS (TOk.opt hS TOk.nil) | exact TOk.past (by decide +kernel) (TOk.opt hS TOk.nil) | exact TOk.opt hS (TOk.past (by decide +kernel) TOk.nil) | exact TOk.past (by decide +kernel) (TOk.past (by decide +kernel) TOk.nil)), ?_⟩) (.pure (y_conv rfl (hcv _)) ⟨(by first | exact TOk.opt hS (TOk.opt hS TOk.nil) | exact TOk.past (by decide +kernel) (TOk.opt hS TOk.nil) | exact TOk.opt hS (TOk.past (by decide +kernel) TOk.nil) | exact TOk.past (by decide +kernel) (TOk.past (by decide +kernel) TOk.nil)), ?_⟩)
      ·refine JDp 4 rfl (y_shl8 rfl rfl (by omega)) ?_
       refine JDe 8 rfl (.pure (y_conv rfl (hcv _)) ⟨(by first | exact TOk.opt hS (TOk.opt hS TOk.nil) | exact TOk.past (by decide +kernel) (TOk.opt hS TOk.nil) | exact TOk.opt hS (TOk.past (by decide +kernel) TOk.nil) | exact TOk.past (by decide +kernel) (TOk.past (by decide +kernel) TOk.nil)), ?_⟩)
       refine JDp 9 rfl (y_add rfl rfl (c := (((b.getD 1 0).toNat * 256 + (b.getD 2 0).toNat : Nat) : Int)) (by rw [wrap_add (by omega) (by omega)]; omega)) ?_
       refine JDp 11 rfl y_as ?_
       refine JDp 12 rfl y_as ?_
       refine JDd ?_
       refine AU0 ?_
       exact JC.ret (RT.three rfl rfl rfl rfl rfl ⟨rfl, rfl⟩)
      ·refine JDe 3 rfl (.pure (y_conv rfl (hcv _)) ⟨(by first | exact TOk.opt hS (TOk.opt hS TOk.nil) | exact TOk.past (by decide +kernel) (TOk.opt hS TOk.nil) | exact TOk.opt hS (TOk.past (by decide +kernel) TOk.nil) | exact TOk.past (by decide +kernel) (TOk.past (by decide +kernel) TOk.nil)), ?_⟩)
       refine JDp 4 rfl (y_shl8 rfl rfl (by omega)) ?_
       refine JDp 9 rfl (y_add rfl rfl (c := (((b.getD 1 0).toNat * 256 + (b.getD 2 0).toNat : Nat) : Int)) (by rw [wrap_add (by omega) (by omega)]; omega)) ?_
       refine JDp 11 rfl y_as ?_
       refine JDp 12 rfl y_as ?_
       refine JDd ?_
       refine AU0 ?_
       exact JC.ret (RT.three rfl rfl rfl rfl rfl ⟨rfl, rfl⟩)
     ·have e : headV b = .tuple #[.int .i64 0, .int .i64 0, .bool false] := by
       unfold headV headS; rw [if_neg (fun h => q0 h.2), if_neg (fun h => q1 h.2.1), if_neg (fun h => q4 h.2.2)]
      rw [e]
      repeat (first | refine JLs (e_loadS rfl (h0 _ (fun e he => he)) ?_) | refine JLs (e_loadS rfl (h1 _ (fun e he => he)) ?_) | refine JLp (y_index (j := 1) rfl rfl (by omega)) ?_ | refine AS0 ?_)
      exact JC.ret (RT.three rfl rfl rfl rfl rfl ⟨rfl, rfl⟩)
    ·have e : headV b = .tuple #[.int .i64 0, .int .i64 0, .bool false] := by
      unfold headV headS; rw [if_neg (fun h => q0 h.2), if_neg (fun h => q1 h.2.1), if_neg (fun h => q3 h.2.1)]
     rw [e]
     repeat (first | refine JLs (e_loadS rfl (h0 _ (fun e he => he)) ?_) | refine JLs (e_loadS rfl (h1 _ (fun e he => he)) ?_) | refine JLp (y_index (j := 1) rfl rfl (by omega)) ?_ | refine AS0 ?_)
     exact JC.ret (RT.three rfl rfl rfl rfl rfl ⟨rfl, rfl⟩)
   ·have e : headV b = .tuple #[.int .i64 0, .int .i64 0, .bool false] := by
     unfold headV headS; rw [if_neg (fun h => q0 h.2), if_neg (fun h => q1 h.2.1), if_neg (fun h => n3 (by have := h.1; omega))]
    rw [e]
    repeat (first | refine JLs (e_loadS rfl (h0 _ (fun e he => he)) ?_) | refine JLs (e_loadS rfl (h1 _ (fun e he => he)) ?_) | refine JLp (y_index (j := 1) rfl rfl (by omega)) ?_ | refine AS0 ?_)
    exact JC.ret (RT.three rfl rfl rfl rfl rfl ⟨rfl, rfl⟩)
  ·have e : headV b = .tuple #[.int .i64 0, .int .i64 0, .bool false] := by
    unfold headV headS; rw [if_neg (fun h => q0 h.2), if_neg (fun h => n2 (by have := h.1; omega)), if_neg (fun h => n2 (by have := h.1; omega))]
   rw [e]
   repeat (first | refine JLs (e_loadS rfl (h0 _ (fun e he => he)) ?_) | refine AS0 ?_)
   exact JC.ret (RT.three rfl rfl rfl rfl rfl ⟨rfl, rfl⟩)
 ·have e : headV b = .tuple #[.int .i64 0, .int .i64 0, .bool false] := by
   unfold headV headS; rw [if_neg (fun h => n1 (by have := h.1; omega)), if_neg (fun h => n1 (by have := h.1; omega)), if_neg (fun h => n1 (by have := h.1; omega))]
  rw [e]
  refine AU0 ?_
  exact JC.ret (RT.three rfl rfl rfl rfl rfl ⟨rfl, rfl⟩)
end Go.Proofs.YtbalcgjphkdecaaGreatDoor.De
namespace Go.Proofs.YtbalcgjphkdecaaGreatDoor.De
open Go.RowKit Go.Lg
set_option maxRecDepth 100000
def CurE (W : World) (r : List Ent) (cb : Nat) (st : Option (List UInt8)) (e : Ent) : Prop :=
 match st with
 | none => ∃ A c, e = (cb, isC 379 [.slice A 0 c, .bool true])
 | some b => ∃ A c, e = (cb, isC 379 [.slice A b.length c, .bool false]) ∧ Src W r A (b.map bv) ∧ b.length ≤ c ∧ b.length ≤ 35184372088832
def octS (st : Option (List UInt8)) (tag : UInt8) : List UInt8 := ((st.bind (takeS tag)).map Prod.fst).getD []
def nxtS (st : Option (List UInt8)) (tag : UInt8) : Option (List UInt8) := (st.bind (takeS tag)).map Prod.snd
def okS (st : Option (List UInt8)) (tag : UInt8) : Bool := (st.bind (takeS tag)).isSome
theorem tk_none {st : Option (List UInt8)} {tag : UInt8} (h : st.bind (takeS tag) = none) : octS st tag = [] ∧ nxtS st tag = none ∧ okS st tag = false := by unfold octS nxtS okS; rw [h]; exact ⟨rfl, rfl, rfl⟩
theorem tk_some {st : Option (List UInt8)} {tag : UInt8} {p q : List UInt8} (h : st.bind (takeS tag) = some (p, q)) : octS st tag = p ∧ nxtS st tag = some q ∧ okS st tag = true := by unfold octS nxtS okS; rw [h]; exact ⟨rfl, rfl, rfl⟩
attribute [local irreducible] JC JL JD RN RT Eff Yld YldIf Tr lenB wrapB num headS
theorem Good_ok {W : World} {r r' : List Ent} {cb : Nat} {st : Option (List UInt8)} {e : Ent} (h : CurE W r' cb st e) : Tr Pg 245 #[ptr cb] W (e :: r) fun v l' => v = .bool st.isSome ∧ l' = e :: r := by
  refine Tr.of_code (args := [_]) Tryz.func245 rfl Tryz.ntmps245 lE_ ?_
  cases st with
  | none => obtain ⟨A, c, rfl⟩ := h
            refine AU1 ?_
            exact JC.ret (RT.one rfl rfl rfl ⟨rfl, rfl⟩)
  | some b => obtain ⟨A, c, rfl, _, _⟩ := h
              refine AU1 ?_
              exact JC.ret (RT.one rfl rfl rfl ⟨rfl, rfl⟩)
theorem errs_ok {W : World} {r r' : List Ent} {cb : Nat} {st : Option (List UInt8)} {e : Ent} (h : CurE W r' cb st e) : Tr Pg 216 #[ptr cb] W (e :: r) fun v l' => v = .slice none 0 0 ∧ l' = (cb, isC 379 [.slice none 0 0, .bool true]) :: r := by
 refine Tr.of_code (args := [_]) Tryz.func216 rfl Tryz.ntmps216 lE_ ?_
 obtain ⟨A, n, c, q, rfl⟩ : ∃ A n c q, e = (cb, isC 379 [.slice A n c, .bool q]) := by
  cases st with
  | none => obtain ⟨A, c, rfl⟩ := h; exact ⟨_, _, _, _, rfl⟩
  | some b => obtain ⟨A, c, rfl, _⟩ := h; exact ⟨_, _, _, _, rfl⟩
 refine AU0 ?_
 refine JLs (e_store 0 rfl rfl rfl (vs := [.slice none 0 0]) rfl rfl rfl lE_ ?_)
 refine JL.cast (l' := (cb, isC 379 [.slice none 0 0, .bool q]) :: r) (by rfl) ?_
 refine AU0 ?_
 refine JLs (e_store 0 rfl rfl rfl (vs := [.bool true]) rfl rfl rfl lE_ ?_)
 refine JL.cast (l' := (cb, isC 379 [.slice none 0 0, .bool true]) :: r) (by rfl) ?_
 refine AU0 ?_
 exact JC.ret (RT.one rfl rfl rfl ⟨rfl, rfl⟩)
set_option maxHeartbeats 4000000 in
theorem Elem_okB (tag : UInt8) {W : World} {r0 r : List Ent} (hr : ∀ x ∈ r0, x ∈ r) {cb : Nat} {st : Option (List UInt8)} {e : Ent} (h : CurE W r0 cb st e) : Tr Pg 214 #[ptr cb, bv tag] W (e :: r) fun v l' =>
  ∃ v1 le1 e', v = .tuple #[v1, .bool (okS st tag)] ∧ Lg.Own 5 1 v1 (octS st tag).length ((octS st tag).map bv) le1 ∧ CurE W r0 cb (nxtS st tag) e' ∧ l' = le1 ++ (e' :: r) := by
 refine Tr.of_code (args := [_, _]) Tryz.func214 rfl Tryz.ntmps214 lE_ ?_
 refine AU0 ?_
 refine JLs (e_call rfl rfl (Good_ok h) ?_)
 rintro v l' ⟨rfl, rfl⟩
 cases st with
 | none =>
  obtain ⟨t1, t2, t3⟩ := tk_none (st := none) (tag := tag) rfl
  rw [t1, t2, t3]
  refine AU0 ?_
  refine JLs (e_call rfl rfl (errs_ok h) ?_)
  rintro v l' ⟨rfl, rfl⟩
  refine AU0 ?_
  exact JC.ret (RT.two rfl rfl rfl rfl ⟨_, [], _, rfl, Lg.Own.nil .., ⟨_, _, rfl⟩, rfl⟩)
 | some b =>
  have h' := h
  obtain ⟨A, c, rfl, hs, hcap, hbig⟩ := h
  by_cases hb : b.length = 0
  ·obtain ⟨t1, t2, t3⟩ := tk_none (st := some b) (tag := tag) (by show takeS tag b = none; unfold takeS; rw [if_neg (by omega)])
   rw [t1, t2, t3]
   refine AU1 ?_
   refine JLs (e_call rfl rfl (errs_ok h') ?_)
   rintro v l' ⟨rfl, rfl⟩
   refine AU0 ?_
   exact JC.ret (RT.two rfl rfl rfl rfl ⟨_, [], _, rfl, Lg.Own.nil .., ⟨_, _, rfl⟩, rfl⟩)
  obtain ⟨a, o, rfl, S, hS, hc⟩ := hs.look (by simp; omega)
  have h0 := look_ld hS hc (getD_bv (show 0 < b.length by omega))
  by_cases htag : (b.getD 0 0).toNat = tag.toNat
  ·have htag' : b.getD 0 0 = tag := UInt8.toNat_inj.1 htag
   have hd1 : (b.drop 1).length = b.length - 1 := by simp
   obtain ⟨A1, hA1⟩ : ∃ A1, A1 = if c = 1 then some (⟨a, o, none⟩ : Addr) else (some (⟨a, o, none⟩ : Addr)).map (·.add (1 * 1)) := ⟨_, rfl⟩
   have hs1 : Src W r0 A1 ((b.drop 1).map bv) := by rw [hA1, List.map_drop]; exact hs.fromG (by simpa using hcap) 1
   have hA1' : A1 ≠ none := by rw [hA1]; split <;> simp
   repeat (first | refine JLs (e_loadS rfl (h0 _ (fun e he => List.mem_cons_of_mem _ (hr e he))) ?_) | refine JLp (y_sliceG (l := 1) (h := b.length) rfl ⟨_, rfl⟩ rfl (by omega) (by omega)) ?_ | refine AS1 ?_)
   rw [← hA1]
   refine AU0 ?_
   refine JLs (e_call rfl rfl (head_ok (b := b.drop 1) hd1 (by omega) (hs1.mono fun e he => List.mem_cons_of_mem _ (hr e he))) ?_)
   rintro v l' ⟨rfl, rfl⟩
   cases hh : headS (b.drop 1) with
   | none =>
    obtain ⟨t1, t2, t3⟩ := tk_none (st := some b) (tag := tag) (by show takeS tag b = none; unfold takeS; rw [if_pos ⟨by omega, htag'⟩, hh])
    rw [t1, t2, t3, show headV (b.drop 1) = .tuple #[.int .i64 0, .int .i64 0, .bool false] by unfold headV; rw [hh]]
    refine AU0 ?_
    refine JLs (e_call rfl rfl (errs_ok h') ?_)
    rintro v l' ⟨rfl, rfl⟩
    refine AU0 ?_
    exact JC.ret (RT.two rfl rfl rfl rfl ⟨_, [], _, rfl, Lg.Own.nil .., ⟨_, _, rfl⟩, rfl⟩)
   | some km =>
    obtain ⟨k, m⟩ := km
    obtain ⟨m1, m2, m3, m4⟩ := headS_some hh
    have hk3 := lenB_le m
    rw [show headV (b.drop 1) = .tuple #[.int .i64 (k : Int), .int .i64 (m : Int), .bool true] by unfold headV; rw [hh]]
    by_cases hkm : k + m ≤ (b.drop 1).length
    ·obtain ⟨t1, t2, t3⟩ := tk_some (st := some b) (tag := tag) (p := ((b.drop 1).drop k).take m) (q := (b.drop 1).drop (k + m)) (by show takeS tag b = _; unfold takeS; rw [if_pos ⟨by omega, htag'⟩, hh]; dsimp only; rw [if_pos hkm])
     rw [t1, t2, t3]
     have hpl : (((b.drop 1).drop k).take m).length = m := by simp; omega
     have hql : ((b.drop 1).drop (k + m)).length = b.length - 1 - (k + m) := by simp; omega
     have hs2 : Src W r0 (if c - 1 = k then A1 else A1.map (·.add (k * 1))) ((((b.drop 1).drop k).take m).map bv) := by
      have := (hs1.fromG (cap := c - 1) (by simp; omega) k).take m
      rw [← List.map_drop, ← List.map_take] at this
      exact this
     have hs3 : Src W r0 (if c - 1 = k + m then A1 else A1.map (·.add ((k + m) * 1))) (((b.drop 1).drop (k + m)).map bv) := by
      rw [List.map_drop]
      exact hs1.fromG (by simp; omega) (k + m)
     generalize ((b.drop 1).drop k).take m = p at *
     generalize (b.drop 1).drop (k + m) = q at *
     have hadd : IntKind.i64.wrap ((k : Int) + (m : Int)) = ((k + m : Nat) : Int) := by rw [wrap_add (by omega) (by omega)]; omega
     repeat (first | refine JLp (y_add rfl rfl hadd) ?_ | refine JLp (y_sliceG (l := k + m) (h := b.length - 1) rfl ⟨_, rfl⟩ rfl (by omega) (by omega)) ?_ | refine AS0 ?_)
     generalize (if c - 1 = k + m then A1 else A1.map (·.add ((k + m) * 1))) = A3 at *
     refine JLs (e_store 0 rfl rfl rfl (vs := [.slice A3 (b.length - 1 - (k + m)) (c - 1 - (k + m))]) rfl rfl rfl lE_ ?_)
     refine JL.cast (l' := (cb, isC 379 [.slice A3 (b.length - 1 - (k + m)) (c - 1 - (k + m)), .bool false]) :: r) (by rfl) ?_
     repeat (first | refine JLp (y_add rfl rfl hadd) ?_ | refine JLp (y_sliceG (l := k) (h := k + m) rfl ⟨_, rfl⟩ ⟨_, rfl⟩ (by omega) (by omega)) ?_ | refine AS0 ?_)
     refine JLs (e_call rfl rfl (Clone_ok (bs := p) (by omega) (by omega) (hs2.mono fun e he => List.mem_cons_of_mem _ (hr e he)) (fun hn => by
      exfalso
      cases A1 with
      | none => exact hA1' rfl
      | some x => split at hn <;> simp at hn)) ?_)
     rintro v l' ⟨le1, ho1, rfl, -⟩
     refine AU0 ?_
     refine JC.ret (RT.two rfl rfl rfl rfl ⟨v, le1, _, rfl, ?_, ⟨A3, c - 1 - (k + m), by rw [hql], hs3, by omega, by omega⟩, rfl⟩)
     rw [hpl]
     rw [show k + m - k = m by omega] at ho1
     exact ho1
    ·obtain ⟨t1, t2, t3⟩ := tk_none (st := some b) (tag := tag) (by show takeS tag b = none; unfold takeS; rw [if_pos ⟨by omega, htag'⟩, hh]; dsimp only; rw [if_neg hkm])
     rw [t1, t2, t3]
     refine AU0 ?_
     refine JLs (e_call rfl rfl (errs_ok h') ?_)
     rintro v l' ⟨rfl, rfl⟩
     refine AU0 ?_
     exact JC.ret (RT.two rfl rfl rfl rfl ⟨_, [], _, rfl, Lg.Own.nil .., ⟨_, _, rfl⟩, rfl⟩)
  ·obtain ⟨t1, t2, t3⟩ := tk_none (st := some b) (tag := tag) (by show takeS tag b = none; unfold takeS; rw [if_neg (fun hx => htag (by rw [hx.2]))])
   rw [t1, t2, t3]
   repeat (first | refine JLs (e_loadS rfl (h0 _ (fun e he => List.mem_cons_of_mem _ (hr e he))) ?_) | refine JLp (y_neq rfl rfl (r := true) (decide_eq_false (by omega))) ?_ | refine AS1 ?_)
   refine JLs (e_call rfl rfl (errs_ok h') ?_)
   rintro v l' ⟨rfl, rfl⟩
   refine AU0 ?_
   exact JC.ret (RT.two rfl rfl rfl rfl ⟨_, [], _, rfl, Lg.Own.nil .., ⟨_, _, rfl⟩, rfl⟩)
end Go.Proofs.YtbalcgjphkdecaaGreatDoor.De
namespace Go.Proofs.YtbalcgjphkdecaaGreatDoor.De
open Go.RowKit Go.Lg
set_option maxRecDepth 100000
attribute [local irreducible] JC JL JD RN RT Eff Yld YldIf Tr lenB wrapB num headS takeS
theorem y_shlW {P : Program} {ρ : Operand → Value} {d : Option Tmp} {ty : TypeId} {pos : String} {af : Array Edge} {gd : Option (Nat × Bool)} {t yt : TypeId} {x y : Operand} {yk : IntKind} {a : Int} (hx : ρ x = .int .i64 a) (hy : ρ y = .int yk 8) :
  Yld P ⟨d, .binOp .shl t x y yt, ty, pos, af, gd⟩ ρ (.int .i64 (IntKind.i64.wrap (a * 256))) :=
 y_shl hx hy (by omega) (by rw [show (2 : Int) ^ (min (8 : Int).toNat IntKind.i64.bits) = 256 by decide])
theorem Open_ok {A : Option Addr} {n c : Nat} {b : List UInt8} {W : World} {r : List Ent} (hl : b.length = n) (hm : n ≤ 35184372088832) (hs : Src W r A (b.map bv)) (hA : A = none → n = 0 ∧ c = 0) :
  Tr Pg 211 #[.slice A n c] W r fun v l' => ∃ cb le1 e, v = ptr cb ∧ CurE W le1 cb (some b) e ∧ l' = e :: (le1 ++ r) := by
 subst hl
 refine Tr.of_code (args := [_]) Tryz.func211 rfl Tryz.ntmps211 lE_ ?_
 refine AU0 ?_
 refine JLs (e_call rfl rfl (Clone_ok rfl (by omega) hs hA) ?_)
 rintro v l' ⟨le1, ho1, rfl, -⟩
 obtain ⟨A1, c1, rfl, hs1, hc1, -⟩ := own_src (W := W) ho1
 repeat (first | refine JLp (y_build (cells := #[.slice A1 b.length c1, .bool false]) rfl) ?_ | refine AS0 ?_)
 refine JLs (e_box (cs := [.slice A1 b.length c1, .bool false]) rfl rfl fun cb => ?_)
 refine AU0 ?_
 exact JC.ret (RT.one rfl rfl rfl ⟨cb, le1, _, rfl, ⟨A1, c1, rfl, hs1, hc1, hm⟩, rfl⟩)
set_option maxHeartbeats 2000000 in
theorem isNumber_ok {A : Option Addr} {n c : Nat} {b : List UInt8} {W : World} {r : List Ent} (hl : b.length = n) (hm : n ≤ 35184372088832) (hs : Src W r A (b.map bv)) :
  Tr Pg 215 #[.slice A n c] W r fun v l' => v = .bool (decide (IsNum b)) ∧ l' = r := by
 refine Tr.of_code (args := [_]) Tryz.func215 rfl Tryz.ntmps215 lE_ ?_
 by_cases n0 : n = 0
 ·rw [decide_eq_false (fun h : IsNum b => by have := h.1; omega)]
  refine AU0 ?_
  exact JC.ret (RT.one rfl rfl rfl ⟨rfl, rfl⟩)
 by_cases n8 : 8 < n
 ·rw [decide_eq_false (fun h : IsNum b => by have := h.2.1; omega)]
  refine AU0 ?_
  exact JC.ret (RT.one rfl rfl rfl ⟨rfl, rfl⟩)
 obtain ⟨a, o, rfl, S, hS, hc⟩ := hs.look (by simp; omega)
 have h0 := look_ld hS hc (getD_bv (show 0 < b.length by omega))
 by_cases q0 : 128 ≤ (b.getD 0 0).toNat
 ·rw [decide_eq_false (fun h : IsNum b => by have := h.2.2.1; omega)]
  repeat (first | refine JLs (e_loadS rfl (h0 _ (fun e he => he)) ?_) | refine AS0 ?_)
  exact JC.ret (RT.one rfl rfl rfl ⟨rfl, rfl⟩)
 by_cases n1 : 1 < n
 ·have h1 := look_ld hS hc (getD_bv (show 1 < b.length by omega))
  by_cases q1 : (b.getD 0 0).toNat = 0
  ·by_cases q2 : 128 ≤ (b.getD 1 0).toNat
   ·rw [decide_eq_true (show IsNum b from ⟨by omega, by omega, by omega, fun _ _ => q2⟩)]
    repeat (first | refine JLs (e_loadS rfl (h0 _ (fun e he => he)) ?_) | refine JLs (e_loadS rfl (h1 _ (fun e he => he)) ?_) | refine JLp (y_index (j := 1) rfl rfl (by omega)) ?_ | refine AS0 ?_)
    exact JC.ret (RT.one rfl rfl rfl ⟨rfl, rfl⟩)
   ·rw [decide_eq_false (fun h : IsNum b => q2 (h.2.2.2 (by omega) q1))]
    repeat (first | refine JLs (e_loadS rfl (h0 _ (fun e he => he)) ?_) | refine JLs (e_loadS rfl (h1 _ (fun e he => he)) ?_) | refine JLp (y_index (j := 1) rfl rfl (by omega)) ?_ | refine AS0 ?_)
    exact JC.ret (RT.one rfl rfl rfl ⟨rfl, rfl⟩)
  ·rw [decide_eq_true (show IsNum b from ⟨by omega, by omega, by omega, fun _ h => absurd h q1⟩)]
   repeat (first | refine JLs (e_loadS rfl (h0 _ (fun e he => he)) ?_) | refine AS0 ?_)
   exact JC.ret (RT.one rfl rfl rfl ⟨rfl, rfl⟩)
 ·rw [decide_eq_true (show IsNum b from ⟨by omega, by omega, by omega, fun h => absurd h (by omega)⟩)]
  repeat (first | refine JLs (e_loadS rfl (h0 _ (fun e he => he)) ?_) | refine AS0 ?_)
  exact JC.ret (RT.one rfl rfl rfl ⟨rfl, rfl⟩)
def numS (st : Option (List UInt8)) : Nat := ((st.bind intS).map Prod.fst).getD 0
def nmxS (st : Option (List UInt8)) : Option (List UInt8) := (st.bind intS).map Prod.snd
theorem int_none {st : Option (List UInt8)} (h : st.bind (takeS 2) = none) : numS st = 0 ∧ nmxS st = none := by
 have : st.bind intS = none := by
  cases st with
  | none => rfl
  | some b => show intS b = none; unfold intS; rw [show takeS 2 b = none from h]
 unfold numS nmxS; rw [this]; exact ⟨rfl, rfl⟩
theorem int_some {st : Option (List UInt8)} {p q : List UInt8} (h : st.bind (takeS 2) = some (p, q)) (h1 : IsNum p ∧ numV p ≤ 4611686018427387904) : numS st = numV p ∧ nmxS st = some q := by
 have : st.bind intS = some (numV p, q) := by
  cases st with
  | none => cases h
  | some b => show intS b = _; unfold intS; rw [show takeS 2 b = _ from h]; dsimp only; rw [if_pos h1]
 unfold numS nmxS; rw [this]; exact ⟨rfl, rfl⟩
theorem int_bad {st : Option (List UInt8)} {p q : List UInt8} (h : st.bind (takeS 2) = some (p, q)) (h1 : ¬ (IsNum p ∧ numV p ≤ 4611686018427387904)) : numS st = 0 ∧ nmxS st = none := by
 have : st.bind intS = none := by
  cases st with
  | none => cases h
  | some b => show intS b = _; unfold intS; rw [show takeS 2 b = _ from h]; dsimp only; rw [if_neg h1]
 unfold numS nmxS; rw [this]; exact ⟨rfl, rfl⟩
theorem take_big {st : Option (List UInt8)} {p q : List UInt8} {W : World} {r : List Ent} {cb : Nat} {e : Ent} (h : CurE W r cb st e) {tag : UInt8} (ht : st.bind (takeS tag) = some (p, q)) : p.length < 65536 := by
 cases st with
 | none => cases ht
 | some b => exact (takeS_some ht).2
set_option maxRecDepth 100000 in
set_option maxHeartbeats 4000000 in
theorem CInt_okB {W : World} {r0 r : List Ent} (hr : ∀ x ∈ r0, x ∈ r) {cb : Nat} {st : Option (List UInt8)} {e : Ent} (h : CurE W r0 cb st e) : Tr Pg 171 #[ptr cb] W (e :: r) fun v l' =>
  ∃ e', v = .int .i64 ((numS st : Nat) : Int) ∧ CurE W r0 cb (nmxS st) e' ∧ l' = e' :: r := by
 refine Tr.of_code (args := [_]) Tryz.func171 rfl Tryz.ntmps171 lE_ ?_
 refine AU0 ?_
 refine JLs (e_call rfl rfl (Elem_okB 2 hr h) ?_)
 rintro v l' ⟨v1, le1, e', rfl, ho1, he', rfl⟩
 cases ht : st.bind (takeS 2) with
 | none =>
  obtain ⟨t1, t2, t3⟩ := tk_none ht
  obtain ⟨i1, i2⟩ := int_none ht
  rw [t3, i1, i2]
  rw [t2] at he'
  refine AU0 ?_
  refine JC.sub (l' := e' :: r) (List.sublist_append_right _ _) ?_
  exact JC.ret (RT.one rfl rfl rfl ⟨e', rfl, he', rfl⟩)
 | some x =>
  obtain ⟨p, rest⟩ := x
  have hp := take_big h ht
  obtain ⟨t1, t2, t3⟩ := tk_some ht
  rw [t3]
  rw [t1] at ho1
  rw [t2] at he'
  obtain ⟨A1, c1, rfl, hs1, hc1, hn1⟩ := own_src (W := W) ho1
  obtain ⟨k, hk⟩ : ∃ k, k = min p.length 8 := ⟨_, rfl⟩
  have hmin : (if (8 : Int) < ((p.length : Nat) : Int) then (8 : Int) else ((p.length : Nat) : Int)) = ((k : Nat) : Int) := by split <;> omega
  obtain ⟨A2, hA2⟩ : ∃ A2, A2 = if c1 = 0 then A1 else A1.map (·.add (0 * 1)) := ⟨_, rfl⟩
  have hs2 : Src W le1 A2 ((p.take k).map bv) := by
   have := (hs1.fromG (cap := c1) (by simpa using hc1) 0).take k
   rw [List.drop_zero, ← List.map_take] at this
   rw [hA2]; exact this
  have hqk : (p.take k).length = k := by simp; omega
  have hqp : IsNum p → p.take k = p := fun hn => List.take_of_length_le (by have := hn.2.1; omega)
  obtain ⟨q, hq⟩ : ∃ q, q = p.take k := ⟨_, rfl⟩
  rw [← hq] at hs2 hqk hqp
  repeat (first | refine JLp (y_min rfl rfl hmin) ?_ | refine JLp (y_sliceG (l := 0) (h := k) rfl rfl ⟨_, rfl⟩ (by omega) (by omega)) ?_ | refine AS0 ?_)
  rw [← hA2]
  refine JC.loop (fun m f l => ∃ (i : Nat) (z : Int), i + m = k ∧ (numV (q.take i) < 9223372036854775808 → z = ((numV (q.take i) : Nat) : Int)) ∧ FrOk f [(0, ptr cb), (3, .slice A1 p.length c1), (5, .int .i64 z), (19, .slice A2 (k - 0) (c1 - 0)), (20, .int .i64 ((k - 0 : Nat) : Int)), (21, .int .i64 (i : Int))] ∧ l = le1 ++ (e' :: r)) k ?_ ?_
  ·exact ⟨0, 0, by omega, fun _ => rfl, ⟨rfl, rfl, rfl, rfl, rfl, rfl, trivial⟩, rfl⟩
  rintro m f l ⟨i, z, hi, hz, hf, rfl⟩
  refine JC.frame _ hf fun f' => ?_
  by_cases hik : i < k
  ·obtain ⟨a, o, e2, S, hS, hc⟩ := hs2.look (by simp; omega)
   cases e2
   have hi' : i < q.length := by omega
   have hld := look_ld hS hc (getD_bv hi')
   have hx := x_lt (q.getD i 0)
   repeat (first | refine JLs (e_loadS rfl (hld _ (fun e he => List.mem_append_left _ he)) ?_) | refine JLp (y_shlW rfl rfl) ?_ | refine JLp (y_conv (c := ((q.getD i 0).toNat : Int)) rfl (wrap_add (by omega) (by omega))) ?_ | refine JLp (y_add rfl rfl (c := IntKind.i64.wrap (IntKind.i64.wrap (z * 256) + ((q.getD i 0).toNat : Int))) rfl) ?_ | refine AS0 ?_)
   refine RN.loop (m' := m - 1) (by omega) ⟨i + 1, _, by omega, ?_, ⟨rfl, rfl, rfl, rfl, rfl, rfl, trivial⟩, rfl⟩
   intro hlt
   have hst : q.take (i + 1) = q.take i ++ [q.getD i 0] := by
    rw [List.take_succ_eq_append_getElem hi']
    simp [List.getD, List.getElem?_eq_getElem hi']
   rw [hst, numV_snoc] at hlt ⊢
   have hz' := hz (by omega)
   rw [hz']
   rw [wrap_add (c := ((numV (q.take i) : Nat) : Int) * 256) (by omega) (by omega), wrap_add (by omega) (by omega)]
   omega
  ·obtain rfl : i = k := by omega
   have hzz : numV q < 9223372036854775808 → z = ((numV q : Nat) : Int) := by
    rw [List.take_of_length_le (by omega)] at hz; exact hz
   refine AU0 ?_
   refine JLs (e_call rfl rfl (isNumber_ok (b := p) rfl (by omega) (hs1.mono fun e he => List.mem_append_left _ he)) ?_)
   rintro v l' ⟨rfl, rfl⟩
   by_cases hnum : IsNum p
   ·rw [decide_eq_true hnum]
    have e1 := hqp hnum
    rw [e1] at hzz
    obtain rfl := hzz hnum.lt
    have hlt := hnum.lt
    by_cases hmx : numV p ≤ 4611686018427387904
    ·obtain ⟨i1, i2⟩ := int_some ht ⟨hnum, hmx⟩
     rw [i1, i2]
     refine AU0 ?_
     refine JC.sub (l' := e' :: r) (List.sublist_append_right _ _) ?_
     exact JC.ret (RT.one rfl rfl rfl ⟨e', rfl, he', rfl⟩)
    ·obtain ⟨i1, i2⟩ := int_bad ht (fun h => hmx h.2)
     rw [i1, i2]
     refine AU0 ?_
     refine JL.sub (l' := e' :: r) (List.sublist_append_right _ _) ?_
     refine JLs (e_call rfl rfl (errs_ok he') ?_)
     rintro v l' ⟨rfl, rfl⟩
     refine AU0 ?_
     exact JC.ret (RT.one rfl rfl rfl ⟨_, rfl, ⟨_, _, rfl⟩, rfl⟩)
   ·rw [decide_eq_false hnum]
    obtain ⟨i1, i2⟩ := int_bad ht (fun h => hnum h.1)
    rw [i1, i2]
    refine AU0 ?_
    refine JL.sub (l' := e' :: r) (List.sublist_append_right _ _) ?_
    refine JLs (e_call rfl rfl (errs_ok he') ?_)
    rintro v l' ⟨rfl, rfl⟩
    refine AU0 ?_
    exact JC.ret (RT.one rfl rfl rfl ⟨_, rfl, ⟨_, _, rfl⟩, rfl⟩)
end Go.Proofs.YtbalcgjphkdecaaGreatDoor.De
namespace Go.Proofs.YtbalcgjphkdecaaGreatDoor.De
open Go.RowKit Go.Lg
set_option maxRecDepth 100000
theorem ba_self (a : ByteArray) : (a.toList == a.toList) = true := by simp
attribute [local irreducible] JC JL JD RN RT Eff Yld YldIf Tr lenB wrapB num headS takeS
theorem COct_okB {W : World} {r0 r : List Ent} (hr : ∀ x ∈ r0, x ∈ r) {cb : Nat} {st : Option (List UInt8)} {e : Ent} (h : CurE W r0 cb st e) : Tr Pg 173 #[ptr cb] W (e :: r) fun v l' =>
  ∃ le1 e', Lg.Own 5 1 v (octS st 4).length ((octS st 4).map bv) le1 ∧ CurE W r0 cb (nxtS st 4) e' ∧ l' = le1 ++ (e' :: r) := by
 refine Tr.of_code (args := [_]) Tryz.func173 rfl Tryz.ntmps173 lE_ ?_
 refine AU0 ?_
 refine JLs (e_call rfl rfl (Elem_okB 4 hr h) ?_)
 rintro v l' ⟨v1, le1, e', rfl, ho1, he', rfl⟩
 refine AU0 ?_
 exact JC.ret (RT.one rfl rfl (by conv => lhs; whnf) ⟨le1, e', ho1, he', rfl⟩)
theorem CText_okB {W : World} {r0 r : List Ent} (hr : ∀ x ∈ r0, x ∈ r) {cb : Nat} {st : Option (List UInt8)} {e : Ent} (h : CurE W r0 cb st e) : Tr Pg 213 #[ptr cb] W (e :: r) fun v l' =>
  ∃ e', v = .string (ba (octS st 27)) ∧ CurE W r0 cb (nxtS st 27) e' ∧ l' = e' :: r := by
 refine Tr.of_code (args := [_]) Tryz.func213 rfl Tryz.ntmps213 lE_ ?_
 refine AU0 ?_
 refine JLs (e_call rfl rfl (Elem_okB 27 hr h) ?_)
 rintro v l' ⟨v1, le1, e', rfl, ho1, he', rfl⟩
 obtain ⟨A1, c1, rfl, hs1, hc1, -⟩ := own_src (W := W) ho1
 refine AU0 ?_
 refine JLs (e_str rfl rfl (hs1.mono fun e he => by simp [he]) (fun h => own_none ho1 h) ?_)
 refine AU0 ?_
 refine JC.sub (l' := e' :: r) (List.sublist_append_right _ _) ?_
 exact JC.ret (RT.one rfl rfl rfl ⟨e', rfl, he', rfl⟩)
def inS (st : Option (List UInt8)) (tag : UInt8) : Option (List UInt8) := (st.bind (takeS tag)).map Prod.fst
theorem Into_okB (tag : UInt8) {W : World} {r0 r : List Ent} (hr : ∀ x ∈ r0, x ∈ r) {cb : Nat} {st : Option (List UInt8)} {e : Ent} (h : CurE W r0 cb st e) : Tr Pg 212 #[ptr cb, bv tag] W (e :: r) fun v l' =>
  ∃ db le1 e' d, v = ptr db ∧ CurE W r0 cb (nxtS st tag) e' ∧ CurE W le1 db (inS st tag) d ∧ l' = d :: (le1 ++ (e' :: r)) := by
 refine Tr.of_code (args := [_, _]) Tryz.func212 rfl Tryz.ntmps212 lE_ ?_
 refine AU0 ?_
 refine JLs (e_call rfl rfl (Elem_okB tag hr h) ?_)
 rintro v l' ⟨v1, le1, e', rfl, ho1, he', rfl⟩
 cases ht : st.bind (takeS tag) with
 | none =>
  obtain ⟨t1, t2, t3⟩ := tk_none ht
  have t4 : inS st tag = none := by unfold inS; rw [ht]; rfl
  rw [t1] at ho1
  rw [t2] at he'
  rw [t2, t3, t4]
  obtain ⟨A1, c1, rfl, hs1, hc1, -⟩ := own_src (W := W) ho1
  repeat (first | refine JLp (y_build (cells := #[.slice A1 0 c1, .bool true]) rfl) ?_ | refine AS0 ?_)
  refine JLs (e_box (cs := [.slice A1 0 c1, .bool true]) rfl rfl fun db => ?_)
  refine AU0 ?_
  exact JC.ret (RT.one rfl rfl rfl ⟨db, le1, e', _, rfl, he', ⟨_, _, rfl⟩, rfl⟩)
 | some x =>
  obtain ⟨p, rest⟩ := x
  have hp := take_big h ht
  obtain ⟨t1, t2, t3⟩ := tk_some ht
  have t4 : inS st tag = some p := by unfold inS; rw [ht]; rfl
  rw [t1] at ho1
  rw [t2] at he'
  rw [t2, t3, t4]
  obtain ⟨A1, c1, rfl, hs1, hc1, -⟩ := own_src (W := W) ho1
  repeat (first | refine JLp (y_build (cells := #[.slice A1 p.length c1, .bool false]) rfl) ?_ | refine AS0 ?_)
  refine JLs (e_box (cs := [.slice A1 p.length c1, .bool false]) rfl rfl fun db => ?_)
  refine AU0 ?_
  exact JC.ret (RT.one rfl rfl rfl ⟨db, le1, e', _, rfl, he', ⟨_, _, rfl, hs1, hc1, by omega⟩, rfl⟩)
end Go.Proofs.YtbalcgjphkdecaaGreatDoor.De
namespace Go.Proofs.YtbalcgjphkdecaaGreatDoor.To
open Go.RowKit Go.Lg
set_option maxRecDepth 100000
attribute [local irreducible] JC JL JD RN RT Eff Yld YldIf Tr partsL okR splitL wordB joinD fit betweenS laidS viaS
abbrev iv (n : Int) : Value := .int .i64 n
def tm (n : Int) : Prop := 0 ≤ n ∧ n ≤ 1073741824
theorem isIn_ok (n a b : Int) {W : World} {l : List Ent} : Tr Pg 155 #[iv n, iv a, iv b] W l fun v l' => v = .bool (decide (a ≤ n) && decide (n ≤ b)) ∧ l' = l := by
 refine Tr.of_code (args := [_, _, _]) Tryz.func155 rfl Tryz.ntmps155 lE_ ?_
 by_cases h : a ≤ n
 ·have h1 : decide (a ≤ n) = true := decide_eq_true h
  have h2 : decide (n ≤ b) = decide (n ≤ b) := rfl
  repeat (first | refine JLp (y_geq rfl rfl h1) ?_ | refine JLp (y_leq rfl rfl h2) ?_ | refine AS0 ?_)
  exact JC.ret (RT.one rfl rfl rfl ⟨by rw [h1]; rfl, rfl⟩)
 ·have h1 : decide (a ≤ n) = false := decide_eq_false h
  repeat (first | refine JLp (y_geq rfl rfl h1) ?_ | refine AS0 ?_)
  exact JC.ret (RT.one rfl rfl rfl ⟨by rw [h1]; rfl, rfl⟩)
theorem isIn_yes {n a b : Int} (h1 : a ≤ n) (h2 : n ≤ b) {W : World} {l : List Ent} : Tr Pg 155 #[iv n, iv a, iv b] W l fun v l' => v = .bool true ∧ l' = l :=
 (isIn_ok n a b).mono fun v l' h => ⟨by rw [h.1, decide_eq_true h1, decide_eq_true h2]; rfl, h.2⟩
theorem isNonce_yes {n : Int} (h : tm n) {W : World} {l : List Ent} : Tr Pg 145 #[iv n] W l fun v l' => v = .bool true ∧ l' = l := by
 refine Tr.of_code (args := [_]) Tryz.func145 rfl Tryz.ntmps145 lE_ ?_
 refine AU0 ?_
 refine JLs (e_call rfl rfl (isIn_yes h.1 h.2) ?_)
 rintro v l' ⟨rfl, rfl⟩
 refine AU0 ?_
 exact JC.ret (RT.one rfl rfl rfl ⟨rfl, rfl⟩)
theorem isBlob_yes {A : Option Addr} {n c : Nat} (h1 : 1 ≤ n) (h2 : n ≤ 800) {W : World} {l : List Ent} : Tr Pg 154 #[.slice A n c] W l fun v l' => v = .bool true ∧ l' = l := by
 refine Tr.of_code (args := [_]) Tryz.func154 rfl Tryz.ntmps154 lE_ ?_
 refine AU0 ?_
 refine JLs (e_call rfl rfl (isIn_yes (n := (n : Int)) (a := 1) (b := 800) (by omega) (by omega)) ?_)
 rintro v l' ⟨rfl, rfl⟩
 refine AU0 ?_
 exact JC.ret (RT.one rfl rfl rfl ⟨rfl, rfl⟩)
theorem areTimes_yes {A : Option Addr} {n c : Nat} {zs : List Int} (hn : zs.length = n) (hm : n ≤ 1000) (hz : ∀ z ∈ zs, tm z) {W : World} {l : List Ent} (hs : Src W l A (zs.map iv)) : Tr Pg 144 #[.slice A n c] W l fun v l' => v = .bool true ∧ l' = l := by
 refine Tr.of_code (args := [_]) Tryz.func144 rfl Tryz.ntmps144 lE_ ?_
 refine AU0 ?_
 refine JC.loop (fun m f l1 => ∃ i, i + m = n ∧ FrOk f [(0, .slice A n c), (5, .slice A n c), (6, .int .i64 (n : Int)), (7, .int .i64 (i : Int))] ∧ l1 = l) n ?_ ?_
 ·exact ⟨0, by omega, ⟨rfl, rfl, rfl, rfl, trivial⟩, rfl⟩
 rintro m f l1 ⟨i, hmi, hf, rfl⟩
 refine JC.frame _ hf fun f' => ?_
 by_cases hi : i < n
 ·have hi' : i < zs.length := by omega
  obtain ⟨b, o, rfl, hc⟩ := hs.at_ (by simp; omega)
  have hy := List.getElem?_eq_getElem hi'
  refine AU0 ?_
  refine JLs (e_loadS (u := iv (zs[i]'hi')) rfl (fun w hw => by rw [Nat.mul_one]; exact hc l1 (fun _ h => h) w hw i _ (by simp [hy])) ?_)
  refine AU0 ?_
  refine JLs (e_call rfl rfl (isIn_yes (hz _ (List.getElem_mem hi')).1 (hz _ (List.getElem_mem hi')).2) ?_)
  rintro v l' ⟨rfl, rfl⟩
  refine AU0 ?_
  exact RN.loop (m' := m - 1) (by omega) ⟨i + 1, by omega, ⟨rfl, rfl, rfl, rfl, trivial⟩, rfl⟩
 ·obtain rfl : n = i := by omega
  refine AU0 ?_
  exact JC.ret (RT.one rfl rfl rfl ⟨rfl, rfl⟩)
structure Tk where
 sv_ : P2
 kv : Int
 bl : List UInt8
def Tk.ok (t : Tk) : Prop := fitP t.sv_ = true ∧ isPr t.sv_ = true ∧ 1 ≤ t.kv ∧ t.kv ≤ 255 ∧ 1 ≤ t.bl.length ∧ t.bl.length ≤ 800
def tkC (t : Tk) (v : Value) : List Value := [sv t.sv_.1, sv t.sv_.2, iv t.kv, v]
def BV (W : World) (r : List Ent) (v : Value) (bs : List UInt8) : Prop := ∃ A c, v = .slice A bs.length c ∧ SlV W r A bs.length c (bs.map bv)
theorem BV.mono {W : World} {r r' : List Ent} {v : Value} {bs : List UInt8} (h : BV W r v bs) (hr : ∀ e ∈ r, e ∈ r') : BV W r' v bs := by
 obtain ⟨A, c, h1, h2⟩ := h
 exact ⟨A, c, h1, h2.mono hr⟩
abbrev OwnB (v : Value) (bs : List UInt8) (le : List Ent) : Prop := Lg.Own 5 1 v bs.length (bs.map bv) le
theorem BV.own {W : World} {v : Value} {bs : List UInt8} {le : List Ent} (h : OwnB v bs le) : BV W le v bs := by
 obtain ⟨A, c, h1, h2⟩ := SlV.own (W := W) h
 exact ⟨A, c, h1, h2⟩
theorem isTicket_yes {t : Tk} {v : Value} (h : t.ok) {W : World} {l : List Ent} (hv : BV W l v t.bl) : Tr Pg 153 #[.agg (tkC t v).toArray] W l fun v l' => v = .bool true ∧ l' = l := by
 obtain ⟨h1, h2, h3, h4, h5, h6⟩ := h
 obtain ⟨A, c, rfl, hs⟩ := hv
 refine Tr.of_code (args := [_]) Tryz.func153 rfl Tryz.ntmps153 lE_ ?_
 refine AU0 ?_
 refine JLs (e_box (cs := tkC t (.slice A t.bl.length c)) rfl rfl fun bx => ?_)
 refine AU1 ?_
 refine JLs (e_call rfl rfl (IsPrinc_ok (p := t.sv_) h1) ?_)
 rintro v l' ⟨rfl, rfl⟩
 rw [h2]
 refine AU1 ?_
 refine JLs (e_call rfl rfl (isIn_yes h3 h4) ?_)
 rintro v l' ⟨rfl, rfl⟩
 refine AU1 ?_
 refine JLs (e_call rfl rfl (isBlob_yes h5 h6) ?_)
 rintro v l' ⟨rfl, rfl⟩
 refine AU1 ?_
 exact JC.sub (List.sublist_cons_self _ _) (JC.ret (RT.one rfl rfl rfl ⟨rfl, rfl⟩))
def zTk : List Value := [sv [], sv [], iv 0, .slice none 0 0]
theorem noTicket_yes {W : World} {l : List Ent} : Tr Pg 206 #[.agg zTk.toArray] W l fun v l' => v = .bool true ∧ l' = l := by
 refine Tr.of_code (args := [_]) Tryz.func206 rfl Tryz.ntmps206 lE_ ?_
 refine AU0 ?_
 refine JLs (e_box (cs := zTk) rfl rfl fun bx => ?_)
 repeat (first | refine JLp (y_build (cells := (enc2 ([], [])).toArray) rfl) ?_ | refine JLp (y_eqlAns (r := true) rfl rfl (eq_princ ([], []) ([], [])) (by decide)) ?_ | refine AS1 ?_)
 exact JC.sub (List.sublist_cons_self _ _) (JC.ret (RT.one rfl rfl rfl ⟨rfl, rfl⟩))
theorem limited_ok {v : Value} {bs : List UInt8} (h : bs.length ≤ 2000) {W : World} {l : List Ent} (hv : BV W l v bs) : Tr Pg 123 #[.bool true, v] W l fun v' l' => v' = .tuple #[v, iv 0] ∧ l' = l := by
 obtain ⟨A, c, rfl, hs⟩ := hv
 refine Tr.of_code (args := [_, _]) Tryz.func123 rfl Tryz.ntmps123 lE_ ?_
 have h1 : decide ((2000 : Int) < (bs.length : Int)) = false := decide_eq_false (by omega)
 repeat (first | refine JLp (y_gtr rfl rfl h1) ?_ | refine AS0 ?_)
 exact JC.ret (RT.two rfl rfl rfl rfl ⟨rfl, rfl⟩)
end Go.Proofs.YtbalcgjphkdecaaGreatDoor.To
namespace Go.Proofs.YtbalcgjphkdecaaGreatDoor.To
open Go.RowKit Go.Lg
set_option maxRecDepth 100000
abbrev Bs := List UInt8
def wrapL (tag : UInt8) (bss : List Bs) : Bs := De.wrapB tag bss.flatten
def intB (n : Int) : Bs := De.wrapB 2 (De.num (De.clampI n))
def octB (b : Bs) : Bs := De.wrapB 4 b
def texB (s : S) : Bs := De.wrapB 27 s
def prB (p : P2) : Bs := wrapL 48 [texB p.1, texB p.2]
def tkB (t : Tk) : Bs := wrapL 97 [prB t.sv_, intB t.kv, octB t.bl]
theorem wrap_le (tag : UInt8) (p : Bs) : (De.wrapB tag p).length ≤ 4 + p.length := by
 have := De.wrapB_len tag p
 have := De.lenB_le p.length
 omega
theorem intB_le (n : Int) : (intB n).length ≤ 12 := by
 have := wrap_le 2 (De.num (De.clampI n))
 have := De.num_len (De.clampI_le n)
 unfold intB
 omega
theorem octB_le (b : Bs) : (octB b).length ≤ 4 + b.length := wrap_le 4 b
theorem texB_le (s : S) : (texB s).length ≤ 4 + s.length := wrap_le 27 s
def tiny (p : P2) : Bool := decide (p.1.length ≤ 40) && decide (p.2.length ≤ 60)
theorem tiny_spec {p : P2} (h : tiny p = true) : p.1.length ≤ 40 ∧ p.2.length ≤ 60 := by
 simpa [tiny] using h
theorem prB_le {p : P2} (h : tiny p = true) : (prB p).length ≤ 112 := by
 obtain ⟨h1, h2⟩ := tiny_spec h
 have := wrap_le 48 ([texB p.1, texB p.2].flatten)
 have := texB_le p.1
 have := texB_le p.2
 unfold prB wrapL
 simp only [List.flatten_cons, List.flatten_nil, List.length_append, List.length_nil] at *
 omega
def okP (p : P2) : Prop := tiny p = true ∧ fitP p = true ∧ isPr p = true
def Tk.good (t : Tk) : Prop := okP t.sv_ ∧ 1 ≤ t.kv ∧ t.kv ≤ 255 ∧ 1 ≤ t.bl.length ∧ t.bl.length ≤ 800
theorem Tk.good.ok {t : Tk} (h : t.good) : t.ok := ⟨h.1.2.1, h.1.2.2, h.2.1, h.2.2.1, h.2.2.2.1, h.2.2.2.2⟩
theorem tkB_le {t : Tk} (h : t.good) : (tkB t).length ≤ 932 := by
 obtain ⟨h1, _, _, _, h5⟩ := h
 have := prB_le h1.1
 have := intB_le t.kv
 have := octB_le t.bl
 have := wrap_le 97 ([prB t.sv_, intB t.kv, octB t.bl].flatten)
 unfold tkB wrapL
 simp only [List.flatten_cons, List.flatten_nil, List.length_append, List.length_nil] at *
 omega
structure AsQ where
 cl : P2
 sv_ : P2
 till : Int
 nc : Int
structure TgQ where
 tk : Tk
 au : Bs
 sv_ : P2
 till : Int
 nc : Int
structure Rp where
 cl : P2
 tk : Tk
 bl : Bs
structure ApQ where
 tk : Tk
 au : Bs
inductive Mg where
 | aq (q : AsQ)
 | tg (q : TgQ)
 | rep (q : Rp)
 | ap (q : ApQ)
def okBlob (b : Bs) : Prop := 1 ≤ b.length ∧ b.length ≤ 800
def Mg.good : Mg → Prop
 | .aq q => okP q.cl ∧ okP q.sv_ ∧ tm q.till ∧ tm q.nc
 | .tg q => q.tk.good ∧ okBlob q.au ∧ okP q.sv_ ∧ tm q.till ∧ tm q.nc
 | .rep q => okP q.cl ∧ q.tk.good ∧ okBlob q.bl
 | .ap q => q.tk.good ∧ okBlob q.au
def Mg.b1 : Mg → Bs
 | .aq _ => []
 | .tg q => q.tk.bl
 | .rep q => q.tk.bl
 | .ap q => q.tk.bl
def Mg.b2 : Mg → Bs
 | .aq _ => []
 | .tg q => q.au
 | .rep q => q.bl
 | .ap q => q.au
def Mg.byts : Mg → Bs
 | .aq q => wrapL 106 [prB q.cl, prB q.sv_, intB q.till, intB q.nc]
 | .tg q => wrapL 108 [tkB q.tk, octB q.au, prB q.sv_, intB q.till, intB q.nc]
 | .rep q => wrapL 107 [prB q.cl, tkB q.tk, octB q.bl]
 | .ap q => wrapL 110 [tkB q.tk, octB q.au]
abbrev nl : Value := .slice none 0 0
def Mg.cells (m : Mg) (v1 v2 : Value) : List Value :=
 match m with
 | .aq q => [iv 1, sv q.cl.1, sv q.cl.2, sv q.sv_.1, sv q.sv_.2, iv q.till, iv q.nc, sv [], sv [], iv 0, nl, nl, sv [], sv [], iv 0, iv 0, sv [], sv [], sv [], sv [], iv 0, nl, nl, sv [], sv [], iv 0, nl, nl, iv 0, iv 0]
 | .tg q => [iv 2, sv [], sv [], sv [], sv [], iv 0, iv 0, sv q.tk.sv_.1, sv q.tk.sv_.2, iv q.tk.kv, v1, v2, sv q.sv_.1, sv q.sv_.2, iv q.till, iv q.nc, sv [], sv [], sv [], sv [], iv 0, nl, nl, sv [], sv [], iv 0, nl, nl, iv 0, iv 0]
 | .rep q => [iv 3, sv [], sv [], sv [], sv [], iv 0, iv 0, sv [], sv [], iv 0, nl, nl, sv [], sv [], iv 0, iv 0, sv q.cl.1, sv q.cl.2, sv q.tk.sv_.1, sv q.tk.sv_.2, iv q.tk.kv, v1, v2, sv [], sv [], iv 0, nl, nl, iv 0, iv 0]
 | .ap q => [iv 4, sv [], sv [], sv [], sv [], iv 0, iv 0, sv [], sv [], iv 0, nl, nl, sv [], sv [], iv 0, iv 0, sv [], sv [], sv [], sv [], iv 0, nl, nl, sv q.tk.sv_.1, sv q.tk.sv_.2, iv q.tk.kv, v1, v2, iv 0, iv 0]
theorem Mg.byts_le {m : Mg} (h : m.good) : m.byts.length ≤ 2000 := by
 cases m with
 | aq q =>
  have := prB_le h.1.1
  have := prB_le h.2.1.1
  have := intB_le q.till
  have := intB_le q.nc
  have := wrap_le 106 ([prB q.cl, prB q.sv_, intB q.till, intB q.nc].flatten)
  simp only [Mg.byts, wrapL, List.flatten_cons, List.flatten_nil, List.length_append, List.length_nil] at *
  omega
 | tg q =>
  have := tkB_le h.1
  have := octB_le q.au
  have := h.2.1.2
  have := prB_le h.2.2.1.1
  have := intB_le q.till
  have := intB_le q.nc
  have := wrap_le 108 ([tkB q.tk, octB q.au, prB q.sv_, intB q.till, intB q.nc].flatten)
  simp only [Mg.byts, wrapL, List.flatten_cons, List.flatten_nil, List.length_append, List.length_nil] at *
  omega
 | rep q =>
  have := prB_le h.1.1
  have := tkB_le h.2.1
  have := octB_le q.bl
  have := h.2.2.2
  have := wrap_le 107 ([prB q.cl, tkB q.tk, octB q.bl].flatten)
  simp only [Mg.byts, wrapL, List.flatten_cons, List.flatten_nil, List.length_append, List.length_nil] at *
  omega
 | ap q =>
  have := tkB_le h.1
  have := octB_le q.au
  have := h.2.2
  have := wrap_le 110 ([tkB q.tk, octB q.au].flatten)
  simp only [Mg.byts, wrapL, List.flatten_cons, List.flatten_nil, List.length_append, List.length_nil] at *
  omega
theorem Mg.byts_pos (m : Mg) : 1 ≤ m.byts.length := by cases m <;> simp [Mg.byts, wrapL, De.wrapB]
theorem take_wrap (tag : UInt8) {p : Bs} (h : p.length < 65536) (rest : Bs) : De.takeS tag (De.wrapB tag p ++ rest) = some (p, rest) := De.takeS_wrap tag h rest
theorem oct_wrap (tag : UInt8) {p : Bs} (h : p.length < 65536) (rest : Bs) : De.octS (some (De.wrapB tag p ++ rest)) tag = p ∧ De.nxtS (some (De.wrapB tag p ++ rest)) tag = some rest ∧ De.inS (some (De.wrapB tag p ++ rest)) tag = some p := by
 have e : (some (De.wrapB tag p ++ rest)).bind (De.takeS tag) = some (p, rest) := take_wrap tag h rest
 unfold De.octS De.nxtS De.inS
 rw [e]
 exact ⟨rfl, rfl, rfl⟩
theorem num_intB {n : Int} (h : tm n) (rest : Bs) : De.numS (some (intB n ++ rest)) = n.toNat ∧ De.nmxS (some (intB n ++ rest)) = some rest := by
 have e : De.intS (intB n ++ rest) = some (De.clampI n, rest) := De.intS_num (De.clampI_le n) rest
 have e2 : De.clampI n = n.toNat := De.clampI_of ⟨h.1, by have := h.2; omega⟩
 rw [e2] at e
 unfold De.numS De.nmxS
 simp only [Option.bind_some, e]
 exact ⟨rfl, rfl⟩
structure Pa where
 cl : P2
 ses : Bs
 tr : S
 st : Int
 en : Int
structure Au where
 cl : P2
 tm_ : Int
 sq : Int
structure RP where
 ses : Bs
 sv_ : P2
 st : Int
 en : Int
 nc : Int
def okT (s : S) : Prop := s.length ≤ 300 ∧ ∀ b ∈ s, 32 ≤ b.toNat ∧ b.toNat ≤ 126
def Pa.good (p : Pa) : Prop := okP p.cl ∧ p.ses.length = 32 ∧ okT p.tr ∧ tm p.st ∧ tm p.en
def Au.good (p : Au) : Prop := okP p.cl ∧ tm p.tm_ ∧ tm p.sq
def RP.good (p : RP) : Prop := p.ses.length = 32 ∧ okP p.sv_ ∧ tm p.st ∧ tm p.en ∧ tm p.nc
def Pa.byts (p : Pa) : Bs := wrapL 99 [prB p.cl, octB p.ses, texB p.tr, intB p.st, intB p.en]
def Au.byts (p : Au) : Bs := wrapL 98 [prB p.cl, intB p.tm_, intB p.sq]
def RP.byts (p : RP) : Bs := wrapL 122 [octB p.ses, prB p.sv_, intB p.st, intB p.en, intB p.nc]
def Pa.cells (p : Pa) : List Value := [sv p.cl.1, sv p.cl.2] ++ p.ses.map bv ++ [sv p.tr, iv p.st, iv p.en]
def Au.cells (p : Au) : List Value := [sv p.cl.1, sv p.cl.2, iv p.tm_, iv p.sq]
def RP.cells (p : RP) : List Value := p.ses.map bv ++ [sv p.sv_.1, sv p.sv_.2, iv p.st, iv p.en, iv p.nc]
theorem Pa.byts_le {p : Pa} (h : p.good) : p.byts.length ≤ 700 := by
 have := prB_le h.1.1
 have := octB_le p.ses
 have := h.2.1
 have := texB_le p.tr
 have := h.2.2.1.1
 have := intB_le p.st
 have := intB_le p.en
 have := wrap_le 99 ([prB p.cl, octB p.ses, texB p.tr, intB p.st, intB p.en].flatten)
 simp only [Pa.byts, wrapL, List.flatten_cons, List.flatten_nil, List.length_append, List.length_nil] at *
 omega
theorem Au.byts_le {p : Au} (h : p.good) : p.byts.length ≤ 700 := by
 have := prB_le h.1.1
 have := intB_le p.tm_
 have := intB_le p.sq
 have := wrap_le 98 ([prB p.cl, intB p.tm_, intB p.sq].flatten)
 simp only [Au.byts, wrapL, List.flatten_cons, List.flatten_nil, List.length_append, List.length_nil] at *
 omega
theorem RP.byts_le {p : RP} (h : p.good) : p.byts.length ≤ 700 := by
 have := prB_le h.2.1.1
 have := octB_le p.ses
 have := h.1
 have := intB_le p.st
 have := intB_le p.en
 have := intB_le p.nc
 have := wrap_le 122 ([octB p.ses, prB p.sv_, intB p.st, intB p.en, intB p.nc].flatten)
 simp only [RP.byts, wrapL, List.flatten_cons, List.flatten_nil, List.length_append, List.length_nil] at *
 omega
theorem len32 {kk : Bs} (h : kk.length = 32) : ∃ a b c d e f g i j k l m n o p q A B C D E F G I J K L M N O P Q, kk = [a, b, c, d, e, f, g, i, j, k, l, m, n, o, p, q, A, B, C, D, E, F, G, I, J, K, L, M, N, O, P, Q] := by
 match kk, h with
 | [a, b, c, d, e, f, g, i, j, k, l, m, n, o, p, q, A, B, C, D, E, F, G, I, J, K, L, M, N, O, P, Q], _ => exact ⟨a, b, c, d, e, f, g, i, j, k, l, m, n, o, p, q, A, B, C, D, E, F, G, I, J, K, L, M, N, O, P, Q, rfl⟩
end Go.Proofs.YtbalcgjphkdecaaGreatDoor.To
namespace Go.Proofs.YtbalcgjphkdecaaGreatDoor.To
open Go.RowKit Go.Lg
set_option maxRecDepth 100000
attribute [local irreducible] JC JL JD RN RT Eff Yld YldIf Tr partsL okR splitL wordB joinD fit betweenS laidS viaS De.wrapB De.num De.clampI
def AllS (W : World) (r : List Ent) : List (Option Addr × Nat × Bs) → Prop
 | [] => True
 | w :: ws => (Src W r w.1 (w.2.2.map bv) ∧ (w.1 = none → w.2.2.length = 0 ∧ w.2.1 = 0)) ∧ AllS W r ws
theorem AllS.at_ {W : World} {r : List Ent} : ∀ {ws : List (Option Addr × Nat × Bs)} {i : Nat} {w : Option Addr × Nat × Bs}, AllS W r ws → ws[i]? = some w → Src W r w.1 (w.2.2.map bv) ∧ (w.1 = none → w.2.2.length = 0 ∧ w.2.1 = 0)
 | [], _, _, _, h => by simp at h
 | x :: xs, 0, w, h, hi => by
  simp only [List.getElem?_cons_zero, Option.some.injEq] at hi
  subst hi
  exact h.1
 | x :: xs, i + 1, w, h, hi => h.2.at_ (by simpa using hi)
theorem rowsL {W : World} {r : List Ent} {b tot T : Nat} (ws : List (Option Addr × Nat × Bs)) (hb : (b, isR T tot (ws.map fun w => .slice w.1 w.2.2.length w.2.1)) ∈ r) (h : AllS W r ws) : RowsAt W r (some ⟨b, 0, none⟩) (ws.map fun w => w.2.2) := by
 refine ⟨_, by simp, Src.whole hb, fun i bs hi => ?_⟩
 rw [List.getElem?_map] at hi
 cases hw : ws[i]? with
 | none => rw [hw] at hi; cases hi
 | some w =>
  rw [hw] at hi
  cases hi
  obtain ⟨h1, h2⟩ := h.at_ hw
  exact ⟨w.1, w.2.1, by rw [List.getElem?_map, hw]; rfl, h1, h2⟩
set_option maxHeartbeats 2000000 in
theorem princ_ok {p : P2} (h : tiny p = true) {W : World} {r : List Ent} : Tr Pg 147 #[pv p] W r fun v l' => ∃ le, OwnB v (prB p) le ∧ l' = le ++ r := by
 obtain ⟨h1, h2⟩ := tiny_spec h
 have b1 := texB_le p.1
 have b2 := texB_le p.2
 refine Tr.of_code (args := [_]) Tryz.func147 rfl Tryz.ntmps147 lE_ ?_
 refine AU0 ?_
 refine JLs (e_box (cs := enc2 p) rfl rfl fun bx => ?_)
 refine AU0 ?_
 refine JC.drawn 9 rfl mixed ?_
 refine JDp 0 rfl (y_fieldAddr rfl) ?_
 refine JDr 1 0 rfl rfl (r_load1 rfl rfl) ?_
 refine JDp 3 rfl (y_fieldAddr rfl) ?_
 refine JDr 4 0 rfl rfl (r_load1 rfl rfl) ?_
 refine JDe 2 rfl (e_call rfl rfl (De.Text_ok (ps := p.1) (by omega)) ?_)
 rintro v l' ⟨le1, ho1, rfl⟩
 obtain ⟨A1, c1, rfl, hs1, hc1, hn1⟩ := De.own_src (W := W) ho1
 refine ⟨tok_, ?_⟩
 refine JDe 5 rfl (e_call rfl rfl (De.Text_ok (ps := p.2) (by omega)) ?_)
 rintro v l' ⟨le2, ho2, rfl⟩
 obtain ⟨A2, c2, rfl, hs2, hc2, hn2⟩ := De.own_src (W := W) ho2
 refine ⟨tok_, ?_⟩
 refine JDe 6 rfl (e_buildSlice (cells := [.slice A1 (texB p.1).length c1, .slice A2 (texB p.2).length c2]) [.slice A1 (texB p.1).length c1, .slice A2 (texB p.2).length c2] rfl lE_ rfl (by simp [Value.cells]) rfl fun b2 => ⟨tok_, ?_⟩)
 refine JDe 7 rfl (e_call rfl rfl (De.Wrap_ok 48 (bss := [texB p.1, texB p.2]) rfl (by unfold maxLen; decide) (rowsL [(A1, c1, texB p.1), (A2, c2, texB p.2)] (List.mem_cons_self ..) ⟨⟨hs1.mono fun e he => by simp [he], hn1⟩, ⟨hs2.mono fun e he => by simp [he], hn2⟩, trivial⟩) (by simp only [List.flatten_cons, List.flatten_nil, List.length_append, List.length_nil]; omega)) ?_)
 rintro v l' ⟨le9, ho9, rfl⟩
 refine ⟨tok_, ?_⟩
 refine JDp 8 rfl y_as ?_
 refine JDd ?_
 refine AU0 ?_
 refine JC.sub (l' := le9 ++ r) (by repeat (first | exact List.Sublist.refl _ | apply List.Sublist.append_left | apply List.Sublist.cons | refine List.Sublist.trans ?_ (List.sublist_append_right _ _))) ?_
 exact JC.ret (RT.one rfl rfl (by conv => lhs; whnf) ⟨le9, ho9, rfl⟩)
set_option maxHeartbeats 2000000 in
theorem ticket_ok {t : Tk} (h : t.good) {v : Value} {W : World} {r : List Ent} (hv : BV W r v t.bl) : Tr Pg 157 #[.agg (tkC t v).toArray] W r fun v l' => ∃ le, OwnB v (tkB t) le ∧ l' = le ++ r := by
 obtain ⟨h1, h2, h3, h4, h5⟩ := h
 obtain ⟨A, c, rfl, hs, hc, hn⟩ := hv
 have b1 := prB_le h1.1
 have b2 := intB_le t.kv
 have b3 := octB_le t.bl
 refine Tr.of_code (args := [_]) Tryz.func157 rfl Tryz.ntmps157 lE_ ?_
 refine AU0 ?_
 refine JLs (e_box (cs := tkC t (.slice A t.bl.length c)) rfl rfl fun bx => ?_)
 refine AU0 ?_
 refine JC.drawn 12 rfl mixed ?_
 refine JDp 0 rfl (y_fieldAddr rfl) ?_
 refine JDr 1 0 rfl rfl (r_loadA rfl lE_ rfl) ?_
 refine JDp 3 rfl (y_fieldAddr rfl) ?_
 refine JDr 4 0 rfl rfl (r_load1 rfl rfl) ?_
 refine JDp 6 rfl (y_fieldAddr rfl) ?_
 refine JDr 7 0 rfl rfl (r_load1 rfl rfl) ?_
 refine JDe 2 rfl (e_call rfl rfl (princ_ok (p := t.sv_) h1.1) ?_)
 rintro v l' ⟨le1, ho1, rfl⟩
 obtain ⟨A1, c1, rfl, hs1, hc1, hn1⟩ := De.own_src (W := W) ho1
 refine ⟨tok_, ?_⟩
 refine JDe 5 rfl (e_call rfl rfl (De.Int_ok t.kv) ?_)
 rintro v l' ⟨le2, ho2, rfl⟩
 obtain ⟨A2, c2, rfl, hs2, hc2, hn2⟩ := De.own_src (W := W) ho2
 refine ⟨tok_, ?_⟩
 refine JDe 8 rfl (e_call rfl rfl (De.Octets_ok (ps := t.bl) rfl (by omega) hn (hs.mono fun e he => by simp [he])) ?_)
 rintro v l' ⟨le3, ho3, rfl⟩
 obtain ⟨A3, c3, rfl, hs3, hc3, hn3⟩ := De.own_src (W := W) ho3
 refine ⟨tok_, ?_⟩
 refine JDe 9 rfl (e_buildSlice (cells := [.slice A1 (prB t.sv_).length c1, .slice A2 (intB t.kv).length c2, .slice A3 (octB t.bl).length c3]) [.slice A1 (prB t.sv_).length c1, .slice A2 (intB t.kv).length c2, .slice A3 (octB t.bl).length c3] rfl lE_ rfl (by simp [Value.cells]) rfl fun b2 => ⟨tok_, ?_⟩)
 refine JDe 10 rfl (e_call rfl rfl (De.Wrap_ok 97 (bss := [prB t.sv_, intB t.kv, octB t.bl]) rfl (by unfold maxLen; decide) (rowsL [(A1, c1, prB t.sv_), (A2, c2, intB t.kv), (A3, c3, octB t.bl)] (List.mem_cons_self ..) ⟨⟨hs1.mono fun e he => by simp [he], hn1⟩, ⟨hs2.mono fun e he => by simp [he], hn2⟩, ⟨hs3.mono fun e he => by simp [he], hn3⟩, trivial⟩) (by simp only [List.flatten_cons, List.flatten_nil, List.length_append, List.length_nil]; omega)) ?_)
 rintro v l' ⟨le9, ho9, rfl⟩
 refine ⟨tok_, ?_⟩
 refine JDp 11 rfl y_as ?_
 refine JDd ?_
 refine AU0 ?_
 refine JC.sub (l' := le9 ++ r) (by repeat (first | exact List.Sublist.refl _ | apply List.Sublist.append_left | apply List.Sublist.cons | refine List.Sublist.trans ?_ (List.sublist_append_right _ _))) ?_
 exact JC.ret (RT.one rfl rfl (by conv => lhs; whnf) ⟨le9, ho9, rfl⟩)
end Go.Proofs.YtbalcgjphkdecaaGreatDoor.To
namespace Go.Proofs.YtbalcgjphkdecaaGreatDoor.To
open Go.RowKit Go.Lg
set_option maxRecDepth 100000
def isSI (s : ByteArray) (pos : Nat) : Obj → Prop := fun o => o = .stringIter s pos
section
variable {P : Program} {ρ : Operand → Value} {d : Option Tmp} {ty : TypeId} {pos : String} {af : Array Edge} {gd : Option (Nat × Bool)} {W : World} {l : List Ent} {Ψ : Value → List Ent → Prop}
theorem e_rangeS {t : TypeId} {x : Operand} {s : ByteArray} [ht : StrT P t] (hx : ρ x = .string s) (h : ∀ b, Ψ (.pointer (some ⟨b, 0, none⟩)) ((b, isSI s 0) :: l)) : Eff P W l ⟨d, .range t x, ty, pos, af, gd⟩ ρ Ψ := by
 refine e_new (v := fun b => .pointer (some ⟨b, 0, none⟩)) (ob := .stringIter s 0) (p := isSI s 0) (fun w => ?_) rfl h
 simp [execOp, hx, run_range_string w t s ht.h, World.iter]
theorem e_nextS {x : Operand} {s : S} {b k : Nat} {c : UInt8} (i : Nat) (he : l[i]? = some (b, isSI (ba s) k)) (hx : ρ x = .pointer (some ⟨b, 0, none⟩)) (hk : s[k]? = some c) (hc : c.toNat < 128)
  (h : Ψ (.tuple #[.bool true, .int .i64 (k : Int), .int .i32 (c.toNat : Int)]) (l.set i (b, isSI (ba s) (k + 1)))) : Eff P W l ⟨d, .next x true, ty, pos, af, gd⟩ ρ Ψ := by
 intro w hw
 obtain ⟨_, ob, hb, rfl⟩ := hw.at_ he
 obtain ⟨hlt, hck⟩ := List.getElem?_eq_some_iff.1 hk
 have hlt' : k < (ba s).size := hlt
 have hget : (ba s)[k]'hlt' = c := by rw [← hck]; rfl
 have hd := decode_ascii (ba s) k hlt' (by rw [hget]; exact hc)
 rw [hget] at hd
 unfold OpW
 simp only [execOp, hx, Instr.next, getObj, setObj, Sem.run_bind, Sem.run, hb, Result.andThen_ok, hlt', if_true, hd]
 refine ⟨_, hw.set_ (p' := isSI (ba s) (k + 1)) he (setB_ok w hb _) rfl, ?_⟩
 exact h
theorem e_nextEnd {x : Operand} {s : S} {b k : Nat} (i : Nat) (he : l[i]? = some (b, isSI (ba s) k)) (hx : ρ x = .pointer (some ⟨b, 0, none⟩)) (hk : s.length ≤ k) (h : Ψ (.tuple #[.bool false]) l) : Eff P W l ⟨d, .next x true, ty, pos, af, gd⟩ ρ Ψ := by
 intro w hw
 obtain ⟨_, ob, hb, rfl⟩ := hw.at_ he
 have hlt' : ¬ k < (ba s).size := by rw [ba_size]; omega
 unfold OpW
 simp only [execOp, hx, Instr.next, getObj, Sem.run_bind, Sem.run, hb, Result.andThen_ok, hlt', if_false]
 exact ⟨l, hw, h⟩
end
theorem JD.eff3 {P : Program} {n : Nat} {W : World} {K : Kont} {f : Fr} {l : List Ent} {ops : Array Oper} {T : Tq} {fuel : Nat} {listed : Array Bool} {d d' d'' : Option Tmp} {op op' op'' : Op} {ty ty' ty'' : TypeId} {pos pos' pos'' : String} {af af' af'' : Array Edge} {gd gd' gd'' : Option (Nat × Bool)}
  (j k q : Nat) (hr : Region.ready .any ops listed = [j, k, q]) (hj : ops[j]? = some ⟨d, op, ty, pos, af, gd⟩) (hw : wantF ops n f gd = true) (hk : ops[k]? = some ⟨d', op', ty', pos', af', gd'⟩) (hwk : wantF ops n f gd' = true) (hq : ops[q]? = some ⟨d'', op'', ty'', pos'', af'', gd''⟩) (hwq : wantF ops n f gd'' = true)
  (h : Eff P W l ⟨d, op, ty, pos, af, gd⟩ (ev n f) fun v l' => TOk T (listed.setIfInBounds j true) l' ∧ JD P n W ops K T fuel (listed.setIfInBounds j true) (put f d v) l')
  (h' : Eff P W l ⟨d', op', ty', pos', af', gd'⟩ (ev n f) fun v l' => TOk T (listed.setIfInBounds k true) l' ∧ JD P n W ops K T fuel (listed.setIfInBounds k true) (put f d' v) l')
  (h'' : Eff P W l ⟨d'', op'', ty'', pos'', af'', gd''⟩ (ev n f) fun v l' => TOk T (listed.setIfInBounds q true) l' ∧ JD P n W ops K T fuel (listed.setIfInBounds q true) (put f d'' v) l') : JD P n W ops K T (fuel + 1) listed f l := by
 unfold JD
 intro w hs _
 refine ⟨fun h0 => absurd (h0.symm.trans hr) (by simp), fun i hi => ?_⟩
 rw [hr] at hi
 rcases List.mem_cons.1 hi with rfl | hi
 ·exact JD.step_ hj hw h hs
 rcases List.mem_cons.1 hi with rfl | hi
 ·exact JD.step_ hk hwk h' hs
 ·obtain rfl : i = q := by simpa using hi
  exact JD.step_ hq hwq h'' hs
attribute [local irreducible] JC JL JD RN RT Eff Yld YldIf Tr partsL okR splitL wordB joinD fit betweenS laidS viaS De.wrapB De.num De.clampI
theorem textBad_ok {c : UInt8} (h : 32 ≤ c.toNat ∧ c.toNat ≤ 126) {W : World} {l : List Ent} : Tr Pg 262 #[.int .i32 (c.toNat : Int)] W l fun v l' => v = .bool false ∧ l' = l := by
 obtain ⟨h1, h2⟩ := h
 refine Tr.of_code (args := [_]) Tryz.func262 rfl Tryz.ntmps262 lE_ ?_
 refine AU0 ?_
 exact JC.ret (RT.one rfl rfl rfl ⟨rfl, rfl⟩)
theorem indexFunc_no {s : S} (h : ∀ b ∈ s, 32 ≤ b.toNat ∧ b.toNat ≤ 126) {W : World} {l : List Ent} : Tr Pg 282 #[sv s, .func (.func 262) #[] #[], .bool true] W l fun v l' => v = iv (-1) ∧ l' = l := by
 refine Tr.of_code (args := [_, _, _]) Tryz.func282 rfl Tryz.ntmps282 lE_ ?_
 refine AU0 ?_
 refine JLs (e_rangeS rfl fun bi => ?_)
 refine AU0 ?_
 refine JC.loop (fun m f l1 => ∃ k, k + m = s.length ∧ FrOk f [(1, .func (.func 262) #[] #[]), (2, .bool true), (10, .pointer (some ⟨bi, 0, none⟩))] ∧ l1 = (bi, isSI (ba s) k) :: l) s.length ?_ ?_
 ·exact ⟨0, by omega, ⟨rfl, rfl, rfl, trivial⟩, rfl⟩
 rintro m f l1 ⟨k, hmk, hf, rfl⟩
 refine JC.frame _ hf fun f' => ?_
 by_cases hk : k < s.length
 ·have hy := List.getElem?_eq_getElem hk
  have hb := h _ (List.getElem_mem hk)
  refine AU0 ?_
  refine JLs (e_nextS 0 rfl rfl hy (by omega) ?_)
  refine AU0 ?_
  refine JLs (e_call rfl rfl (textBad_ok hb) ?_)
  rintro v l' ⟨rfl, rfl⟩
  repeat (first | refine JLp (y_eqlB rfl rfl) ?_ | refine AS0 ?_)
  exact RN.loop (m' := m - 1) (by omega) ⟨k + 1, by omega, ⟨rfl, rfl, rfl, trivial⟩, rfl⟩
 ·refine AU0 ?_
  refine JLs (e_nextEnd 0 rfl rfl (by omega) ?_)
  refine AU0 ?_
  exact JC.sub (List.sublist_cons_self _ _) (JC.ret (RT.one rfl rfl rfl ⟨rfl, rfl⟩))
theorem isText_yes {s : S} (h : okT s) {W : World} {l : List Ent} : Tr Pg 240 #[sv s] W l fun v l' => v = .bool true ∧ l' = l := by
 have h1 := h.1
 have hsz := ba_size s
 have hidx : Tr Pg 261 #[sv s, .func (.func 262) #[] #[]] W l fun v l' => v = iv (-1) ∧ l' = l := by
  refine Tr.of_code (args := [_, _]) Tryz.func261 rfl Tryz.ntmps261 lE_ ?_
  refine AU0 ?_
  refine JLs (e_call rfl rfl (indexFunc_no h.2) ?_)
  rintro v l' ⟨rfl, rfl⟩
  refine AU0 ?_
  exact JC.ret (RT.one rfl rfl rfl ⟨rfl, rfl⟩)
 refine Tr.of_code (args := [_]) Tryz.func240 rfl Tryz.ntmps240 lE_ ?_
 refine AU0 ?_
 refine JLs (e_call rfl rfl hidx ?_)
 rintro v l' ⟨rfl, rfl⟩
 refine AU0 ?_
 exact JC.ret (RT.one rfl rfl rfl ⟨rfl, rfl⟩)
instance : NoGuard Pg 199 := ⟨by kernel_rfl⟩
instance : NoGuard Pg 205 := ⟨by kernel_rfl⟩
theorem eq_as (a b c d a' b' c' d' : S) (t n t' n' : Int) : EqAns Pg 3 199 (.agg #[sv a, sv b, sv c, sv d, iv t, iv n]) (.agg #[sv a', sv b', sv c', sv d', iv t', iv n']) (decide ((a, b) = (a', b')) && (decide ((c, d) = (c', d')) && (decide (t = t') && (decide (n = n') && true)))) :=
 EqAns.strct (fs := [(false, 48, 0), (false, 48, 2), (false, 3, 4), (false, 3, 5)]) rfl (by kernel_rfl) (by kernel_rfl)
  ⟨rfl, _, _, _, _, part_n (n := 2) rfl, part_n (n := 2) rfl, eq_princ (a, b) (a', b'), ⟨rfl, _, _, _, _, part_n (n := 2) rfl, part_n (n := 2) rfl, eq_princ (c, d) (c', d'), ⟨rfl, _, _, _, _, part_1 rfl, part_1 rfl, EqAns.int.more (by decide), ⟨rfl, _, _, _, _, part_1 rfl, part_1 rfl, EqAns.int.more (by decide), rfl, rfl⟩, rfl⟩, rfl⟩, rfl⟩
theorem eq_fail (t n t' n' : Int) : EqAns Pg 2 205 (.agg #[iv t, iv n]) (.agg #[iv t', iv n']) (decide (t = t') && (decide (n = n') && true)) :=
 EqAns.strct (fs := [(false, 24, 0), (false, 3, 1)]) rfl (by kernel_rfl) (by kernel_rfl) ⟨rfl, _, _, _, _, part_1 rfl, part_1 rfl, EqAns.int, ⟨rfl, _, _, _, _, part_1 rfl, part_1 rfl, EqAns.int, rfl, rfl⟩, rfl⟩
end Go.Proofs.YtbalcgjphkdecaaGreatDoor.To
namespace Go.Proofs.YtbalcgjphkdecaaGreatDoor.To
open Go.RowKit Go.Lg
set_option maxRecDepth 100000
attribute [local irreducible] JC JL JD RN RT Eff Yld YldIf Tr partsL okR splitL wordB joinD fit betweenS laidS viaS De.wrapB De.num De.clampI
def Mg.at_ (W : World) (r : List Ent) (m : Mg) (v1 v2 : Value) : Prop := BV W r v1 m.b1 ∧ BV W r v2 m.b2
set_option maxHeartbeats 8000000 in
theorem others_yes {m : Mg} {v1 v2 : Value} {W : World} {l : List Ent} (h : m.at_ W l v1 v2) : Tr Pg 156 #[.agg (m.cells v1 v2).toArray] W l fun v l' => v = .bool true ∧ l' = l := by
 obtain ⟨⟨A, c, rfl, -, -, -⟩, ⟨B, e, rfl, -, -, -⟩⟩ := h
 obtain ⟨x0, x1, x2, x3, x4, x5, x6, x7, x8, x9, x10, x11, x12, x13, x14, x15, x16, x17, x18, x19, x20, x21, x22, x23, x24, x25, x26, x27, x28, x29, hm⟩ : ∃ x0 x1 x2 x3 x4 x5 x6 x7 x8 x9 x10 x11 x12 x13 x14 x15 x16 x17 x18 x19 x20 x21 x22 x23 x24 x25 x26 x27 x28 x29, m.cells (.slice A m.b1.length c) (.slice B m.b2.length e) = [x0, x1, x2, x3, x4, x5, x6, x7, x8, x9, x10, x11, x12, x13, x14, x15, x16, x17, x18, x19, x20, x21, x22, x23, x24, x25, x26, x27, x28, x29] := by cases m <;> exact ⟨_, _, _, _, _, _, _, _, _, _, _, _, _, _, _, _, _, _, _, _, _, _, _, _, _, _, _, _, _, _, rfl⟩
 have ho : [x0, x1, x2, x3, x4, x5, x6, x7, x8, x9, x10, x11, x12, x13, x14, x15, x16, x17, x18, x19, x20, x21, x22, x23, x24, x25, x26, x27, x28, x29].all (·.oneCell') = true := by rw [← hm]; cases m <;> rfl
 simp only [List.all_cons, Bool.and_eq_true] at ho
 obtain ⟨o0, o1, o2, o3, o4, o5, o6, o7, o8, o9, o10, o11, o12, o13, o14, o15, o16, o17, o18, o19, o20, o21, o22, o23, o24, o25, o26, o27, -⟩ := ho
 rw [hm]
 refine Tr.of_code (args := [_]) Tryz.func156 rfl Tryz.ntmps156 lE_ ?_
 refine AU0 ?_
 refine JLs (e_box (cs := [x0, x1, x2, x3, x4, x5, x6, x7, x8, x9, x10, x11, x12, x13, x14, x15, x16, x17, x18, x19, x20, x21, x22, x23, x24, x25, x26, x27, x28, x29]) rfl rfl fun bx => ?_)
 refine AU0 ?_
 refine JC.drawn 12 rfl mixed ?_
 refine JDp 0 rfl (y_fieldAddr rfl) ?_
 refine JDr 1 0 rfl rfl (r_loadA rfl lE_ rfl) ?_
 refine JDp 2 rfl (y_fieldAddr rfl) ?_
 refine JDr 3 0 rfl rfl (r_loadA rfl lE_ rfl) ?_
 refine JDp 4 rfl (y_fieldAddr rfl) ?_
 refine JDr 5 0 rfl rfl (r_loadA rfl lE_ rfl) ?_
 refine JD.cut (fun f l' => ∃ b3 b4 b5, FrOk f [(1, .pointer (some ⟨bx, 0, none⟩)), (3, .pointer (some ⟨b3, 0, none⟩)), (4, .pointer (some ⟨b4, 0, none⟩)), (5, .pointer (some ⟨b5, 0, none⟩)), (7, .agg #[x7, x8, x9, x10, x11, x12, x13, x14, x15]), (9, .agg #[x16, x17, x18, x19, x20, x21, x22]), (11, .agg #[x23, x24, x25, x26, x27])] ∧ l'.Perm ((b5, isC 197 [.string ByteArray.empty, .string ByteArray.empty, .int .i64 0, .slice none 0 0, .slice none 0 0]) :: (b4, isC 203 [.string ByteArray.empty, .string ByteArray.empty, .string ByteArray.empty, .string ByteArray.empty, .int .i64 0, .slice none 0 0, .slice none 0 0]) :: (b3, isC 201 [.string ByteArray.empty, .string ByteArray.empty, .int .i64 0, .slice none 0 0, .slice none 0 0, .string ByteArray.empty, .string ByteArray.empty, .int .i64 0, .int .i64 0]) :: (bx, isC 207 [x0, x1, x2, x3, x4, x5, x6, x7, x8, x9, x10, x11, x12, x13, x14, x15, x16, x17, x18, x19, x20, x21, x22, x23, x24, x25, x26, x27, x28, x29]) :: l)) 3 #[true, true, true, true, true, true, true, true, true, false, false, false] ?_ ?_
 ·rintro f l' ⟨b3, b4, b5, hf, hp⟩
  refine JD.perm hp (JD.frame _ hf fun f' => ?_)
  refine JDe 9 rfl (e_store 2 rfl rfl rfl (vs := [x7, x8, x9, x10, x11, x12, x13, x14, x15]) rfl rfl (by simp only [List.all_cons, List.all_nil, o7, o8, o9, o10, o11, o12, o13, o14, o15]; rfl) lE_ ⟨tok_, ?_⟩)
  refine JDe 10 rfl (e_store 1 rfl rfl rfl (vs := [x16, x17, x18, x19, x20, x21, x22]) rfl rfl (by simp only [List.all_cons, List.all_nil, o16, o17, o18, o19, o20, o21, o22]; rfl) lE_ ⟨tok_, ?_⟩)
  refine JDe 11 rfl (e_store 0 rfl rfl rfl (vs := [x23, x24, x25, x26, x27]) rfl rfl (by simp only [List.all_cons, List.all_nil, o23, o24, o25, o26, o27]; rfl) lE_ ⟨tok_, ?_⟩)
  refine JDd ?_
  clear o0 o1 o2 o3 o4 o5 o6 o7 o8 o9 o10 o11 o12 o13 o14 o15 o16 o17 o18 o19 o20 o21 o22 o23 o24 o25 o26 o27
  refine RN.cast (l' := (b5, isC 197 [x23, x24, x25, x26, x27]) :: (b4, isC 203 [x16, x17, x18, x19, x20, x21, x22]) :: (b3, isC 201 [x7, x8, x9, x10, x11, x12, x13, x14, x15]) :: (bx, isC 207 [x0, x1, x2, x3, x4, x5, x6, x7, x8, x9, x10, x11, x12, x13, x14, x15, x16, x17, x18, x19, x20, x21, x22, x23, x24, x25, x26, x27, x28, x29]) :: l) rfl ?_
  cases m
  ·simp only [Mg.cells, List.cons.injEq, and_true] at hm
   obtain ⟨rfl, rfl, rfl, rfl, rfl, rfl, rfl, rfl, rfl, rfl, rfl, rfl, rfl, rfl, rfl, rfl, rfl, rfl, rfl, rfl, rfl, rfl, rfl, rfl, rfl, rfl, rfl, rfl, rfl, rfl⟩ := hm
   repeat (first | refine JLp (y_build (cells := (enc2 ([], [])).toArray) rfl) ?_ | refine JLp (y_eqlAns (r := true) rfl rfl (eq_princ ([], []) ([], [])) (by decide)) ?_ | refine JLp (y_build (cells := #[sv [], sv [], sv [], sv [], iv 0, iv 0]) rfl) ?_ | refine JLp (y_eqlAns (r := true) rfl rfl (eq_as [] [] [] [] [] [] [] [] 0 0 0 0) (by decide)) ?_ | refine JLp (y_build (cells := #[iv 0, iv 0]) rfl) ?_ | refine JLp (y_eqlAns (r := true) rfl rfl (eq_fail 0 0 0 0) (by decide)) ?_ | refine AS4 ?_)
   refine JLs (e_call rfl rfl noTicket_yes ?_)
   rintro v l' ⟨rfl, rfl⟩
   repeat (first | refine JLp (y_build (cells := (enc2 ([], [])).toArray) rfl) ?_ | refine JLp (y_eqlAns (r := true) rfl rfl (eq_princ ([], []) ([], [])) (by decide)) ?_ | refine JLp (y_build (cells := #[sv [], sv [], sv [], sv [], iv 0, iv 0]) rfl) ?_ | refine JLp (y_eqlAns (r := true) rfl rfl (eq_as [] [] [] [] [] [] [] [] 0 0 0 0) (by decide)) ?_ | refine JLp (y_build (cells := #[iv 0, iv 0]) rfl) ?_ | refine JLp (y_eqlAns (r := true) rfl rfl (eq_fail 0 0 0 0) (by decide)) ?_ | refine AS4 ?_)
   refine JLs (e_call rfl rfl noTicket_yes ?_)
   rintro v l' ⟨rfl, rfl⟩
   repeat (first | refine JLp (y_build (cells := (enc2 ([], [])).toArray) rfl) ?_ | refine JLp (y_eqlAns (r := true) rfl rfl (eq_princ ([], []) ([], [])) (by decide)) ?_ | refine JLp (y_build (cells := #[sv [], sv [], sv [], sv [], iv 0, iv 0]) rfl) ?_ | refine JLp (y_eqlAns (r := true) rfl rfl (eq_as [] [] [] [] [] [] [] [] 0 0 0 0) (by decide)) ?_ | refine JLp (y_build (cells := #[iv 0, iv 0]) rfl) ?_ | refine JLp (y_eqlAns (r := true) rfl rfl (eq_fail 0 0 0 0) (by decide)) ?_ | refine AS4 ?_)
   refine JLs (e_call rfl rfl noTicket_yes ?_)
   rintro v l' ⟨rfl, rfl⟩
   repeat (first | refine JLp (y_build (cells := (enc2 ([], [])).toArray) rfl) ?_ | refine JLp (y_eqlAns (r := true) rfl rfl (eq_princ ([], []) ([], [])) (by decide)) ?_ | refine JLp (y_build (cells := #[sv [], sv [], sv [], sv [], iv 0, iv 0]) rfl) ?_ | refine JLp (y_eqlAns (r := true) rfl rfl (eq_as [] [] [] [] [] [] [] [] 0 0 0 0) (by decide)) ?_ | refine JLp (y_build (cells := #[iv 0, iv 0]) rfl) ?_ | refine JLp (y_eqlAns (r := true) rfl rfl (eq_fail 0 0 0 0) (by decide)) ?_ | refine AS4 ?_)
   exact JC.sub (List.sublist_append_right [_, _, _, _] l) (JC.ret (RT.one rfl rfl rfl ⟨rfl, rfl⟩))
  ·simp only [Mg.cells, List.cons.injEq, and_true] at hm
   obtain ⟨rfl, rfl, rfl, rfl, rfl, rfl, rfl, rfl, rfl, rfl, rfl, rfl, rfl, rfl, rfl, rfl, rfl, rfl, rfl, rfl, rfl, rfl, rfl, rfl, rfl, rfl, rfl, rfl, rfl, rfl⟩ := hm
   repeat (first | refine JLp (y_build (cells := (enc2 ([], [])).toArray) rfl) ?_ | refine JLp (y_eqlAns (r := true) rfl rfl (eq_princ ([], []) ([], [])) (by decide)) ?_ | refine JLp (y_build (cells := #[sv [], sv [], sv [], sv [], iv 0, iv 0]) rfl) ?_ | refine JLp (y_eqlAns (r := true) rfl rfl (eq_as [] [] [] [] [] [] [] [] 0 0 0 0) (by decide)) ?_ | refine JLp (y_build (cells := #[iv 0, iv 0]) rfl) ?_ | refine JLp (y_eqlAns (r := true) rfl rfl (eq_fail 0 0 0 0) (by decide)) ?_ | refine AS4 ?_)
   refine JLs (e_call rfl rfl noTicket_yes ?_)
   rintro v l' ⟨rfl, rfl⟩
   repeat (first | refine JLp (y_build (cells := (enc2 ([], [])).toArray) rfl) ?_ | refine JLp (y_eqlAns (r := true) rfl rfl (eq_princ ([], []) ([], [])) (by decide)) ?_ | refine JLp (y_build (cells := #[sv [], sv [], sv [], sv [], iv 0, iv 0]) rfl) ?_ | refine JLp (y_eqlAns (r := true) rfl rfl (eq_as [] [] [] [] [] [] [] [] 0 0 0 0) (by decide)) ?_ | refine JLp (y_build (cells := #[iv 0, iv 0]) rfl) ?_ | refine JLp (y_eqlAns (r := true) rfl rfl (eq_fail 0 0 0 0) (by decide)) ?_ | refine AS4 ?_)
   refine JLs (e_call rfl rfl noTicket_yes ?_)
   rintro v l' ⟨rfl, rfl⟩
   repeat (first | refine JLp (y_build (cells := (enc2 ([], [])).toArray) rfl) ?_ | refine JLp (y_eqlAns (r := true) rfl rfl (eq_princ ([], []) ([], [])) (by decide)) ?_ | refine JLp (y_build (cells := #[sv [], sv [], sv [], sv [], iv 0, iv 0]) rfl) ?_ | refine JLp (y_eqlAns (r := true) rfl rfl (eq_as [] [] [] [] [] [] [] [] 0 0 0 0) (by decide)) ?_ | refine JLp (y_build (cells := #[iv 0, iv 0]) rfl) ?_ | refine JLp (y_eqlAns (r := true) rfl rfl (eq_fail 0 0 0 0) (by decide)) ?_ | refine AS4 ?_)
   exact JC.sub (List.sublist_append_right [_, _, _, _] l) (JC.ret (RT.one rfl rfl rfl ⟨rfl, rfl⟩))
  ·simp only [Mg.cells, List.cons.injEq, and_true] at hm
   obtain ⟨rfl, rfl, rfl, rfl, rfl, rfl, rfl, rfl, rfl, rfl, rfl, rfl, rfl, rfl, rfl, rfl, rfl, rfl, rfl, rfl, rfl, rfl, rfl, rfl, rfl, rfl, rfl, rfl, rfl, rfl⟩ := hm
   repeat (first | refine JLp (y_build (cells := (enc2 ([], [])).toArray) rfl) ?_ | refine JLp (y_eqlAns (r := true) rfl rfl (eq_princ ([], []) ([], [])) (by decide)) ?_ | refine JLp (y_build (cells := #[sv [], sv [], sv [], sv [], iv 0, iv 0]) rfl) ?_ | refine JLp (y_eqlAns (r := true) rfl rfl (eq_as [] [] [] [] [] [] [] [] 0 0 0 0) (by decide)) ?_ | refine JLp (y_build (cells := #[iv 0, iv 0]) rfl) ?_ | refine JLp (y_eqlAns (r := true) rfl rfl (eq_fail 0 0 0 0) (by decide)) ?_ | refine AS4 ?_)
   refine JLs (e_call rfl rfl noTicket_yes ?_)
   rintro v l' ⟨rfl, rfl⟩
   repeat (first | refine JLp (y_build (cells := (enc2 ([], [])).toArray) rfl) ?_ | refine JLp (y_eqlAns (r := true) rfl rfl (eq_princ ([], []) ([], [])) (by decide)) ?_ | refine JLp (y_build (cells := #[sv [], sv [], sv [], sv [], iv 0, iv 0]) rfl) ?_ | refine JLp (y_eqlAns (r := true) rfl rfl (eq_as [] [] [] [] [] [] [] [] 0 0 0 0) (by decide)) ?_ | refine JLp (y_build (cells := #[iv 0, iv 0]) rfl) ?_ | refine JLp (y_eqlAns (r := true) rfl rfl (eq_fail 0 0 0 0) (by decide)) ?_ | refine AS4 ?_)
   refine JLs (e_call rfl rfl noTicket_yes ?_)
   rintro v l' ⟨rfl, rfl⟩
   repeat (first | refine JLp (y_build (cells := (enc2 ([], [])).toArray) rfl) ?_ | refine JLp (y_eqlAns (r := true) rfl rfl (eq_princ ([], []) ([], [])) (by decide)) ?_ | refine JLp (y_build (cells := #[sv [], sv [], sv [], sv [], iv 0, iv 0]) rfl) ?_ | refine JLp (y_eqlAns (r := true) rfl rfl (eq_as [] [] [] [] [] [] [] [] 0 0 0 0) (by decide)) ?_ | refine JLp (y_build (cells := #[iv 0, iv 0]) rfl) ?_ | refine JLp (y_eqlAns (r := true) rfl rfl (eq_fail 0 0 0 0) (by decide)) ?_ | refine AS4 ?_)
   exact JC.sub (List.sublist_append_right [_, _, _, _] l) (JC.ret (RT.one rfl rfl rfl ⟨rfl, rfl⟩))
  ·simp only [Mg.cells, List.cons.injEq, and_true] at hm
   obtain ⟨rfl, rfl, rfl, rfl, rfl, rfl, rfl, rfl, rfl, rfl, rfl, rfl, rfl, rfl, rfl, rfl, rfl, rfl, rfl, rfl, rfl, rfl, rfl, rfl, rfl, rfl, rfl, rfl, rfl, rfl⟩ := hm
   repeat (first | refine JLp (y_build (cells := (enc2 ([], [])).toArray) rfl) ?_ | refine JLp (y_eqlAns (r := true) rfl rfl (eq_princ ([], []) ([], [])) (by decide)) ?_ | refine JLp (y_build (cells := #[sv [], sv [], sv [], sv [], iv 0, iv 0]) rfl) ?_ | refine JLp (y_eqlAns (r := true) rfl rfl (eq_as [] [] [] [] [] [] [] [] 0 0 0 0) (by decide)) ?_ | refine JLp (y_build (cells := #[iv 0, iv 0]) rfl) ?_ | refine JLp (y_eqlAns (r := true) rfl rfl (eq_fail 0 0 0 0) (by decide)) ?_ | refine AS4 ?_)
   refine JLs (e_call rfl rfl noTicket_yes ?_)
   rintro v l' ⟨rfl, rfl⟩
   repeat (first | refine JLp (y_build (cells := (enc2 ([], [])).toArray) rfl) ?_ | refine JLp (y_eqlAns (r := true) rfl rfl (eq_princ ([], []) ([], [])) (by decide)) ?_ | refine JLp (y_build (cells := #[sv [], sv [], sv [], sv [], iv 0, iv 0]) rfl) ?_ | refine JLp (y_eqlAns (r := true) rfl rfl (eq_as [] [] [] [] [] [] [] [] 0 0 0 0) (by decide)) ?_ | refine JLp (y_build (cells := #[iv 0, iv 0]) rfl) ?_ | refine JLp (y_eqlAns (r := true) rfl rfl (eq_fail 0 0 0 0) (by decide)) ?_ | refine AS4 ?_)
   refine JLs (e_call rfl rfl noTicket_yes ?_)
   rintro v l' ⟨rfl, rfl⟩
   repeat (first | refine JLp (y_build (cells := (enc2 ([], [])).toArray) rfl) ?_ | refine JLp (y_eqlAns (r := true) rfl rfl (eq_princ ([], []) ([], [])) (by decide)) ?_ | refine JLp (y_build (cells := #[sv [], sv [], sv [], sv [], iv 0, iv 0]) rfl) ?_ | refine JLp (y_eqlAns (r := true) rfl rfl (eq_as [] [] [] [] [] [] [] [] 0 0 0 0) (by decide)) ?_ | refine JLp (y_build (cells := #[iv 0, iv 0]) rfl) ?_ | refine JLp (y_eqlAns (r := true) rfl rfl (eq_fail 0 0 0 0) (by decide)) ?_ | refine AS4 ?_)
   exact JC.sub (List.sublist_append_right [_, _, _, _] l) (JC.ret (RT.one rfl rfl rfl ⟨rfl, rfl⟩))
 intro hT
 refine JD.eff3 6 7 8 (by kernel_rfl) rfl rfl rfl rfl rfl rfl (e_alloc fun b3 => ⟨tok_, ?_⟩) (e_alloc fun b4 => ⟨tok_, ?_⟩) (e_alloc fun b5 => ⟨tok_, ?_⟩)
 ·refine JD.eff2 7 8 (by kernel_rfl) rfl rfl rfl rfl (e_alloc fun b4 => ⟨tok_, ?_⟩) (e_alloc fun b5 => ⟨tok_, ?_⟩)
  ·refine JDe 8 rfl (e_alloc fun b5 => ⟨tok_, ?_⟩)
   exact JD.lcast (by kernel_rfl) (hT _ _ (⟨b3, b4, b5, ⟨rfl, rfl, rfl, rfl, rfl, rfl, rfl, trivial⟩, prm_⟩))
  ·refine JDe 7 rfl (e_alloc fun b4 => ⟨tok_, ?_⟩)
   exact JD.lcast (by kernel_rfl) (hT _ _ (⟨b3, b4, b5, ⟨rfl, rfl, rfl, rfl, rfl, rfl, rfl, trivial⟩, prm_⟩))
 ·refine JD.eff2 6 8 (by kernel_rfl) rfl rfl rfl rfl (e_alloc fun b3 => ⟨tok_, ?_⟩) (e_alloc fun b5 => ⟨tok_, ?_⟩)
  ·refine JDe 8 rfl (e_alloc fun b5 => ⟨tok_, ?_⟩)
   exact JD.lcast (by kernel_rfl) (hT _ _ (⟨b3, b4, b5, ⟨rfl, rfl, rfl, rfl, rfl, rfl, rfl, trivial⟩, prm_⟩))
  ·refine JDe 6 rfl (e_alloc fun b3 => ⟨tok_, ?_⟩)
   exact JD.lcast (by kernel_rfl) (hT _ _ (⟨b3, b4, b5, ⟨rfl, rfl, rfl, rfl, rfl, rfl, rfl, trivial⟩, prm_⟩))
 ·refine JD.eff2 6 7 (by kernel_rfl) rfl rfl rfl rfl (e_alloc fun b3 => ⟨tok_, ?_⟩) (e_alloc fun b4 => ⟨tok_, ?_⟩)
  ·refine JDe 7 rfl (e_alloc fun b4 => ⟨tok_, ?_⟩)
   exact JD.lcast (by kernel_rfl) (hT _ _ (⟨b3, b4, b5, ⟨rfl, rfl, rfl, rfl, rfl, rfl, rfl, trivial⟩, prm_⟩))
  ·refine JDe 6 rfl (e_alloc fun b3 => ⟨tok_, ?_⟩)
   exact JD.lcast (by kernel_rfl) (hT _ _ (⟨b3, b4, b5, ⟨rfl, rfl, rfl, rfl, rfl, rfl, rfl, trivial⟩, prm_⟩))
end Go.Proofs.YtbalcgjphkdecaaGreatDoor.To
