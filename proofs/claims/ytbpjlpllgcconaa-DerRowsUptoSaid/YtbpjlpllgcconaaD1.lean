import Derived.Test.YtbpjlpllgcconaaSG
import Derived.Test.YtbpjlpllgcconaaLgV
set_option linter.unusedVariables false
set_option linter.unusedSimpArgs false
namespace Go.Proofs.Ytbpjlpllgcconaa
open Go.RowKit Go.Lg
/-! ### The document's bytes, with no program in sight -/
/-- A length's bytes. -/
def lenB (n : Nat) : List UInt8 := if n < 128 then [UInt8.ofNat n] else if n ≤ 255 then [129, UInt8.ofNat n] else [130, UInt8.ofNat (n / 256), UInt8.ofNat n]
def wrapB (tag : UInt8) (p : List UInt8) : List UInt8 := tag :: (lenB p.length ++ p)
/-- A number's bytes, the least one first. -/
def le (n : Nat) : List UInt8 := if h : n = 0 then [] else UInt8.ofNat n :: le (n / 256)
termination_by n
decreasing_by omega
def fixB (b : List UInt8) : List UInt8 := if b = [] ∨ 128 ≤ (b.getLastD 0).toNat then b ++ [0] else b
def num (n : Nat) : List UInt8 := (fixB (le n)).reverse
def vL : List UInt8 → Nat
  | [] => 0
  | b :: r => b.toNat + 256 * vL r
def numV (p : List UInt8) : Nat := vL p.reverse
def headS (b : List UInt8) : Option (Nat × Nat) :=
  if 1 ≤ b.length ∧ (b.getD 0 0).toNat < 128 then some (1, (b.getD 0 0).toNat)
  else if 2 ≤ b.length ∧ (b.getD 0 0).toNat = 129 ∧ 128 ≤ (b.getD 1 0).toNat then some (2, (b.getD 1 0).toNat)
  else if 3 ≤ b.length ∧ (b.getD 0 0).toNat = 130 ∧ 0 < (b.getD 1 0).toNat then some (3, (b.getD 1 0).toNat * 256 + (b.getD 2 0).toNat)
  else none
def takeS (tag : UInt8) (b : List UInt8) : Option (List UInt8 × List UInt8) :=
  if 0 < b.length ∧ b.getD 0 0 = tag then
    match headS (b.drop 1) with
    | some (k, n) => if k + n ≤ (b.drop 1).length then some (((b.drop 1).drop k).take n, (b.drop 1).drop (k + n)) else none
    | none => none
  else none
def IsNum (p : List UInt8) : Prop := 1 ≤ p.length ∧ p.length ≤ 8 ∧ (p.getD 0 0).toNat < 128 ∧ (1 < p.length → (p.getD 0 0).toNat = 0 → 128 ≤ (p.getD 1 0).toNat)
instance (p : List UInt8) : Decidable (IsNum p) := by unfold IsNum; infer_instance
def intS (b : List UInt8) : Option (Nat × List UInt8) :=
  match takeS 2 b with
  | some (p, rest) => if IsNum p ∧ numV p ≤ 4611686018427387904 then some (numV p, rest) else none
  | none => none
def clampI (n : Int) : Nat := (min (max n 0) 4611686018427387904).toNat
theorem clampI_le (n : Int) : clampI n ≤ 4611686018427387904 := by unfold clampI; omega
theorem clampI_of {n : Int} (h : 0 ≤ n ∧ n ≤ 4611686018427387904) : clampI n = n.toNat := by unfold clampI; omega
theorem ofNat_toNat {n : Nat} (h : n < 256) : (UInt8.ofNat n).toNat = n := by rw [UInt8.toNat_ofNat']; omega
theorem ofNat_eq (x : UInt8) : UInt8.ofNat x.toNat = x := by simp
theorem lenB_len (n : Nat) : (lenB n).length = if n < 128 then 1 else if n ≤ 255 then 2 else 3 := by
  unfold lenB
  split
  · rfl
  · split <;> rfl
theorem wrapB_len (tag : UInt8) (p : List UInt8) : (wrapB tag p).length = 1 + (lenB p.length).length + p.length := by simp [wrapB]; omega
theorem headS_lenB {n : Nat} (hn : n < 65536) (r : List UInt8) : headS (lenB n ++ r) = some ((lenB n).length, n) := by
  unfold lenB
  by_cases h1 : n < 128
  · rw [if_pos h1]
    simp [headS, ofNat_toNat (show n < 256 by omega), h1]
  rw [if_neg h1]
  by_cases h2 : n ≤ 255
  · rw [if_pos h2]
    simp [headS, ofNat_toNat (show n < 256 by omega)]
    omega
  · rw [if_neg h2]
    have e1 : (UInt8.ofNat (n / 256)).toNat = n / 256 := ofNat_toNat (by omega)
    have e2 : (UInt8.ofNat n).toNat = n % 256 := UInt8.toNat_ofNat' ..
    simp only [headS, List.cons_append, List.nil_append, List.length_cons, List.getD_cons_zero, List.getD_cons_succ, e1, e2]
    rw [if_neg (by rintro ⟨_, h⟩; revert h; decide), if_neg (by rintro ⟨_, h, _⟩; revert h; decide), if_pos ⟨by omega, by decide, by omega⟩]
    congr 2
    omega
theorem takeS_wrap (tag : UInt8) {p : List UInt8} (h : p.length < 65536) (rest : List UInt8) : takeS tag (wrapB tag p ++ rest) = some (p, rest) := by
  unfold takeS wrapB
  rw [if_pos ⟨by simp, rfl⟩]
  have e : ((tag :: (lenB p.length ++ p)) ++ rest).drop 1 = lenB p.length ++ (p ++ rest) := by simp
  rw [e, headS_lenB h]
  dsimp only
  rw [if_pos (by simp), List.drop_left, ← List.drop_drop, List.drop_left, List.take_left, List.drop_left]
theorem len3 {b : List UInt8} (h : 3 ≤ b.length) : ∃ x y z r, b = x :: y :: z :: r := by
  cases b with
  | nil => simp at h
  | cons x b =>
    cases b with
    | nil => simp at h
    | cons y b =>
      cases b with
      | nil => simp at h
      | cons z r => exact ⟨x, y, z, r, rfl⟩
theorem headS_some {b : List UInt8} {k n : Nat} (h : headS b = some (k, n)) : n < 65536 ∧ k ≤ b.length ∧ b.take k = lenB n ∧ k = (lenB n).length := by
  unfold headS at h
  by_cases h1 : 1 ≤ b.length ∧ (b.getD 0 0).toNat < 128
  · rw [if_pos h1] at h
    match b, h1, h with
    | x :: r, h1, h =>
      obtain ⟨_, h3⟩ := h1
      simp only [List.getD_cons_zero] at h h3
      obtain ⟨rfl, rfl⟩ := Prod.mk.inj (Option.some.inj h)
      refine ⟨by omega, by simp, ?_, ?_⟩
      · unfold lenB; rw [if_pos h3]; simp
      · unfold lenB; rw [if_pos h3]; rfl
  rw [if_neg h1] at h
  by_cases h2 : 2 ≤ b.length ∧ (b.getD 0 0).toNat = 129 ∧ 128 ≤ (b.getD 1 0).toNat
  · rw [if_pos h2] at h
    match b, h2, h with
    | [_], h2, _ => exact absurd h2.1 (by simp)
    | x :: y :: r, h2, h =>
      obtain ⟨_, h3, h4⟩ := h2
      simp only [List.getD_cons_zero, List.getD_cons_succ] at h h3 h4
      obtain ⟨rfl, rfl⟩ := Prod.mk.inj (Option.some.inj h)
      have hy := y.toNat_lt
      have hx : x = 129 := UInt8.toNat_inj.1 h3
      refine ⟨by omega, by simp, ?_, ?_⟩
      · unfold lenB; rw [if_neg (by omega), if_pos (by omega)]; simp [hx]
      · unfold lenB; rw [if_neg (by omega), if_pos (by omega)]; rfl
  rw [if_neg h2] at h
  by_cases h3 : 3 ≤ b.length ∧ (b.getD 0 0).toNat = 130 ∧ 0 < (b.getD 1 0).toNat
  · rw [if_pos h3] at h
    obtain ⟨x, y, z, r, rfl⟩ := len3 h3.1
    · obtain ⟨_, h4, h5⟩ := h3
      simp only [List.getD_cons_zero, List.getD_cons_succ] at h h4 h5
      obtain ⟨rfl, rfl⟩ := Prod.mk.inj (Option.some.inj h)
      have hy := y.toNat_lt
      have hz := z.toNat_lt
      have hx : x = 130 := UInt8.toNat_inj.1 h4
      have e1 : (y.toNat * 256 + z.toNat) / 256 = y.toNat := by omega
      have e2 : UInt8.ofNat (y.toNat * 256 + z.toNat) = z := UInt8.toNat_inj.1 (by rw [UInt8.toNat_ofNat']; omega)
      refine ⟨by omega, by simp, ?_, ?_⟩
      · unfold lenB; rw [if_neg (by omega), if_neg (by omega), e1, e2]; simp [hx]
      · unfold lenB; rw [if_neg (by omega), if_neg (by omega)]; rfl
  rw [if_neg h3] at h
  cases h
theorem takeS_some {tag : UInt8} {b p rest : List UInt8} (h : takeS tag b = some (p, rest)) : b = wrapB tag p ++ rest ∧ p.length < 65536 := by
  unfold takeS at h
  by_cases h1 : 0 < b.length ∧ b.getD 0 0 = tag
  · rw [if_pos h1] at h
    match b, h1, h with
    | t :: c, h1, h =>
      obtain ⟨_, rfl⟩ := h1
      simp only [List.getD_cons_zero, List.drop_one, List.tail_cons] at h ⊢
      cases hh : headS c with
      | none => rw [hh] at h; cases h
      | some x =>
        obtain ⟨k, n⟩ := x
        rw [hh] at h
        dsimp only at h
        by_cases h2 : k + n ≤ c.length
        · rw [if_pos h2] at h
          cases h
          obtain ⟨h3, h4, h5, h6⟩ := headS_some hh
          have hl : ((c.drop k).take n).length = n := by simp; omega
          refine ⟨?_, by omega⟩
          unfold wrapB
          rw [hl, ← h5]
          simp only [List.cons_append, List.append_assoc]
          congr 1
          rw [← List.drop_drop, List.take_append_drop, List.take_append_drop]
        · rw [if_neg h2] at h; cases h
  · rw [if_neg h1] at h; cases h
theorem wrapB_inj {tag : UInt8} {p q : List UInt8} (hp : p.length < 65536) (hq : q.length < 65536) (h : wrapB tag p = wrapB tag q) : p = q := by
  have h1 := takeS_wrap tag hp []
  have h2 := takeS_wrap tag hq []
  rw [h, h2] at h1
  cases h1
  rfl
/-! ### Numbers -/
theorem le_zero : le 0 = [] := by rw [le]; rfl
theorem le_pos {n : Nat} (h : n ≠ 0) : le n = UInt8.ofNat n :: le (n / 256) := by rw [le, dif_neg h]
theorem vL_le (n : Nat) : vL (le n) = n := by
  induction n using Nat.strongRecOn with
  | ind n ih =>
    by_cases h : n = 0
    · subst h; rw [le_zero]; rfl
    · rw [le_pos h]
      show (UInt8.ofNat n).toNat + 256 * vL (le (n / 256)) = n
      rw [ih _ (by omega), UInt8.toNat_ofNat']
      omega
theorem vL_app (b : List UInt8) (x : UInt8) : vL (b ++ [x]) = vL b + 256 ^ b.length * x.toNat := by
  induction b with
  | nil => simp [vL]
  | cons y r ih =>
    simp only [List.cons_append, vL, ih, List.length_cons, Nat.pow_succ]
    rw [Nat.mul_add, ← Nat.mul_assoc, Nat.mul_comm 256 (256 ^ r.length), Nat.add_assoc]
theorem vL_lt (b : List UInt8) : vL b < 256 ^ b.length := by
  induction b with
  | nil => simp [vL]
  | cons y r ih =>
    have := y.toNat_lt
    simp only [vL, List.length_cons, Nat.pow_succ]
    omega
theorem le_last {n : Nat} (h : n ≠ 0) : (le n).getLastD 0 ≠ 0 := by
  induction n using Nat.strongRecOn with
  | ind n ih =>
    rw [le_pos h]
    by_cases h1 : n / 256 = 0
    · rw [h1, le_zero]
      show UInt8.ofNat n ≠ 0
      intro e
      have := congrArg UInt8.toNat e
      rw [UInt8.toNat_ofNat'] at this
      simp at this
      omega
    · have := ih _ (by omega) h1
      rw [le_pos h1] at this ⊢
      simpa using this
theorem le_len {k : Nat} : ∀ {n : Nat}, n < 256 ^ k → (le n).length ≤ k := by
  induction k with
  | zero => intro n h; obtain rfl : n = 0 := by simpa using h
            rw [le_zero]; exact Nat.le_refl _
  | succ k ih =>
    intro n h
    by_cases h0 : n = 0
    · subst h0; rw [le_zero]; exact Nat.zero_le _
    · rw [le_pos h0]
      have := ih (n := n / 256) (by rw [Nat.pow_succ] at h; omega)
      simp; omega
theorem le_vL {b : List UInt8} (h : b = [] ∨ b.getLastD 0 ≠ 0) : le (vL b) = b := by
  induction b with
  | nil => exact le_zero
  | cons x r ih =>
    have hx := x.toNat_lt
    match r, ih, h with
    | [], _, h =>
      have h0 : x ≠ 0 := by rcases h with h | h; · cases h
                            · exact h
      have h1 : x.toNat ≠ 0 := fun e => h0 (UInt8.toNat_inj.1 e)
      show le (x.toNat + 256 * 0) = [x]
      rw [Nat.mul_zero, Nat.add_zero, le_pos h1, show x.toNat / 256 = 0 by omega, le_zero, ofNat_eq]
    | y :: s, ih, h =>
      have h1 : (y :: s).getLastD 0 ≠ 0 := by rcases h with h | h; · cases h
                                              · simpa using h
      have h2 := ih (.inr h1)
      have h3 : vL (y :: s) ≠ 0 := fun e => by rw [e, le_zero] at h2; cases h2
      show le (x.toNat + 256 * vL (y :: s)) = x :: y :: s
      generalize vL (y :: s) = v at *
      rw [le_pos (by omega), show (x.toNat + 256 * v) / 256 = v by omega, h2]
      congr 1
      apply UInt8.toNat_inj.1
      rw [UInt8.toNat_ofNat']
      omega
theorem numV_num (n : Nat) : numV (num n) = n := by
  unfold numV num
  rw [List.reverse_reverse]
  unfold fixB
  split
  · rw [vL_app, vL_le]; simp
  · exact vL_le n
theorem numV_snoc (p : List UInt8) (x : UInt8) : numV (p ++ [x]) = numV p * 256 + x.toNat := by
  unfold numV
  rw [List.reverse_append]
  show vL (x :: p.reverse) = _
  simp only [vL]
  omega
theorem numV_cons (x : UInt8) (p : List UInt8) : numV (x :: p) = numV p + 256 ^ p.length * x.toNat := by
  unfold numV
  rw [List.reverse_cons, vL_app, List.length_reverse]
theorem numV_lt (p : List UInt8) : numV p < 256 ^ p.length := by
  have := vL_lt p.reverse
  rwa [List.length_reverse] at this
theorem IsNum.lt {p : List UInt8} (h : IsNum p) : numV p < 9223372036854775808 := by
  obtain ⟨h1, h2, h3, _⟩ := h
  match p, h1, h2, h3 with
  | x :: r, _, h2, h3 =>
    simp only [List.getD_cons_zero, List.length_cons] at h2 h3
    rw [numV_cons]
    have h4 := numV_lt r
    have h5 : 256 ^ r.length ≤ 256 ^ 7 := Nat.pow_le_pow_right (by decide) (by omega)
    have h6 : 256 ^ r.length * x.toNat ≤ 256 ^ r.length * 127 := Nat.mul_le_mul_left _ (by omega)
    have h7 : (256 : Nat) ^ 7 = 72057594037927936 := by decide
    omega
theorem num_numV {p : List UInt8} (h : IsNum p) : num (numV p) = p := by
  obtain ⟨h1, h2, h3, h4⟩ := h
  match p, h1, h2, h3, h4 with
  | x :: r, _, h2, h3, h4 =>
    simp only [List.getD_cons_zero, List.getD_cons_succ, List.length_cons] at h2 h3 h4
    unfold num numV
    rw [List.reverse_cons]
    by_cases hx : x.toNat = 0
    · have hx0 : x = 0 := UInt8.toNat_inj.1 hx
      subst hx0
      rw [vL_app]
      simp only [UInt8.toNat_zero, Nat.mul_zero, Nat.add_zero]
      match r, h4 with
      | [], _ =>
        show (fixB (le (vL []))).reverse = [0]
        rw [show vL [] = 0 from rfl, le_zero]
        rfl
      | y :: s, h4 =>
        have h5 : 128 ≤ y.toNat := by simpa using h4 (by simp) hx
        have hl : (y :: s).reverse.getLastD 0 = y := by simp
        rw [le_vL (.inr (by rw [hl]; intro e; rw [e] at h5; simp at h5))]
        unfold fixB
        rw [if_pos (.inr (by rw [hl]; exact h5))]
        simp
    · have hl : (r.reverse ++ [x]).getLastD 0 = x := by simp
      rw [le_vL (.inr (by rw [hl]; intro e; rw [e] at hx; exact hx rfl))]
      unfold fixB
      rw [if_neg (by rw [hl]; rintro (e | e); · simp at e
                     · omega)]
      simp
theorem IsNum_num {n : Nat} (hn : n ≤ 4611686018427387904) : IsNum (num n) := by
  by_cases h0 : n = 0
  · subst h0
    unfold num
    rw [le_zero]
    refine ⟨by decide, by decide, by decide, fun h => absurd h (by decide)⟩
  · have hlast := le_last h0
    have hlen : (le n).length ≤ 8 := le_len (Nat.lt_of_le_of_lt hn (by decide))
    have hv := vL_le n
    have hne : le n ≠ [] := by rw [le_pos h0]; exact List.cons_ne_nil _ _
    obtain ⟨q, x, hq⟩ : ∃ q x, le n = q ++ [x] := ⟨(le n).dropLast, (le n).getLast hne, (List.dropLast_concat_getLast hne).symm⟩
    rw [hq] at hlast hlen hv
    have hl : (q ++ [x]).getLastD 0 = x := by simp
    rw [hl] at hlast
    have hx0 : x.toNat ≠ 0 := fun e => hlast (UInt8.toNat_inj.1 e)
    rw [vL_app] at hv
    simp only [List.length_append, List.length_cons, List.length_nil] at hlen
    unfold num fixB
    rw [hq, hl]
    by_cases hx : 128 ≤ x.toNat
    · rw [if_pos (.inr hx)]
      have hql : q.length ≤ 6 := by
        rcases Nat.lt_or_ge 6 q.length with h | h
        · have : 256 ^ 7 ≤ 256 ^ q.length := Nat.pow_le_pow_right (by decide) h
          have h2 : 256 ^ q.length * 128 ≤ 256 ^ q.length * x.toNat := Nat.mul_le_mul_left _ hx
          have h7 : (256 : Nat) ^ 7 = 72057594037927936 := by decide
          omega
        · exact h
      have e : (q ++ [x] ++ [0]).reverse = 0 :: x :: q.reverse := by simp
      rw [e]
      refine ⟨by simp, by simp; omega, by simp, fun _ _ => by simpa using hx⟩
    · rw [if_neg (by rintro (e | e); · simp at e
                     · exact hx e)]
      have e : (q ++ [x]).reverse = x :: q.reverse := by simp
      rw [e]
      refine ⟨by simp, by simp; omega, by simp; omega, fun _ h => absurd (by simpa using h) hx0⟩
/-- The document's way to know a number is der's. -/
theorem num_iff {p : List UInt8} {z : Int} (hz : numV p < 9223372036854775808 → z = (numV p : Int)) : (0 ≤ z ∧ z ≤ 4611686018427387904 ∧ num z.toNat = p) ↔ (IsNum p ∧ numV p ≤ 4611686018427387904) := by
  constructor
  · rintro ⟨h1, h2, rfl⟩
    rw [numV_num]
    exact ⟨IsNum_num (by omega), by omega⟩
  · rintro ⟨h1, h2⟩
    have := hz h1.lt
    subst this
    rw [Int.toNat_natCast]
    exact ⟨by omega, by omega, num_numV h1⟩
theorem num_len {n : Nat} (hn : n ≤ 4611686018427387904) : (num n).length ≤ 8 := (IsNum_num hn).2.1
theorem intS_num {n : Nat} (hn : n ≤ 4611686018427387904) (rest : List UInt8) : intS (wrapB 2 (num n) ++ rest) = some (n, rest) := by
  unfold intS
  rw [takeS_wrap 2 (by have := num_len hn; omega)]
  dsimp only
  rw [if_pos ⟨IsNum_num hn, by rw [numV_num]; exact hn⟩, numV_num]
theorem intS_some {b rest : List UInt8} {n : Nat} (h : intS b = some (n, rest)) : n ≤ 4611686018427387904 ∧ b = wrapB 2 (num n) ++ rest := by
  unfold intS at h
  cases ht : takeS 2 b with
  | none => rw [ht] at h; cases h
  | some x =>
    obtain ⟨p, r⟩ := x
    rw [ht] at h
    dsimp only at h
    split at h
    · rename_i h1
      cases h
      refine ⟨h1.2, ?_⟩
      rw [num_numV h1.1]
      exact (takeS_some ht).1
    · cases h
end Go.Proofs.Ytbpjlpllgcconaa
