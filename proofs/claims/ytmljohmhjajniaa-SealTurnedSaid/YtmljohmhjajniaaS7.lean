import Derived.Test.YtmljohmhjajniaaS6
set_option linter.unusedVariables false
set_option linter.unusedSimpArgs false
namespace Go.Proofs.Ytmljohmhjajniaa
open Go.RowKit Go.Lg
attribute [local irreducible] JC JL JD RN RT Eff Yld YldIf Tr Sp.stm Sp.strm Sp.words Sp.wAt Sp.sch
instance (u n : Int) (len : Nat) : Decidable (may u n len) := by unfold may; infer_instance
/-- What sealing answers: the error's number, the bytes. -/
def sealR (kk : List UInt8) (u n : Int) (bs : List UInt8) : Int × List UInt8 := if may u n bs.length then (0, sealB kk u.toNat (BitVec.ofNat 64 n.toNat) bs) else (1, [])
def openR (kk : List UInt8) (u : Int) (bs : List UInt8) : Int × List UInt8 := if 0 ≤ u ∧ u ≤ 255 then (match openB kk u.toNat bs with | some ps => (0, ps) | none => (3, [])) else (1, [])
/-- A box, and the counts. -/
def Box (kb xb : Nat) (kk : List UInt8) (s o q : Int) (m : Bool) : List Ent := [(xb, isC 62 (BC kb kk s o q)), (kb, isC 88 (Sp.kst (kk.take 16) m))]
theorem Seal_any {kk : List UInt8} (hk : kk.length = 32) {xb kb : Nat} {s o q : Int} (hcs : 0 ≤ s ∧ s < 4611686018427387904) (m0 : Bool) (u n : Int) {A : Option Addr} {len cap : Nat} {bs : List UInt8} {W : World} {r : List Ent} (hl : bs.length = len) (hA : A = none → len = 0 ∧ cap = 0) (hs : Src W r A (bs.map bv)) :
    Tr Pg 14 #[ptr xb, .int .i64 u, .int .i64 n, .slice A len cap] W (Box kb xb kk s o q m0 ++ r) fun v l' =>
      ∃ v1 le mm, v = .tuple #[v1, .int .i64 (sealR kk u n bs).1] ∧ Own 5 1 v1 (sealR kk u n bs).2.length ((sealR kk u n bs).2.map bv) le ∧ l' = le ++ (Box kb xb kk (if may u n len then s + 1 else s) o q mm ++ r) := by
  by_cases h : may u n len
  · obtain ⟨U, rfl⟩ := Int.eq_ofNat_of_zero_le h.1
    obtain ⟨N, rfl⟩ := Int.eq_ofNat_of_zero_le h.2.2.1
    have e : sealR kk (U : Int) (N : Int) bs = (0, sealB kk U (BitVec.ofNat 64 N) bs) := by
      unfold sealR
      rw [hl, if_pos h, Int.toNat_natCast, Int.toNat_natCast]
    rw [e, if_pos h]
    refine (Seal_ok hk hcs m0 U N h hl hA hs).mono ?_
    rintro v l' ⟨v1, le, mm, rfl, ho, rfl⟩
    refine ⟨v1, le, mm, rfl, ?_, rfl⟩
    rw [sealB_len, hl]
    exact ho
  · have e : sealR kk u n bs = (1, []) := by
      unfold sealR
      rw [hl, if_neg h]
    rw [e, if_neg h]
    refine (Seal_bad h).mono ?_
    rintro v l' ⟨rfl, rfl⟩
    exact ⟨_, [], m0, rfl, Own.nil .., rfl⟩
theorem refSeal_any {kk : List UInt8} (hk : kk.length = 32) (u n : Int) {A : Option Addr} {len cap : Nat} {bs : List UInt8} {W : World} {r : List Ent} (hl : bs.length = len) (hs : Src W r A (bs.map bv)) :
    Tr Pg 15 #[.agg (kk.map bv).toArray, .int .i64 u, .int .i64 n, .slice A len cap] W r fun v l' =>
      ∃ v1 le, v = .tuple #[v1, .int .i64 (sealR kk u n bs).1] ∧ Own 5 1 v1 (sealR kk u n bs).2.length ((sealR kk u n bs).2.map bv) le ∧ l' = le ++ r := by
  by_cases h : may u n len
  · obtain ⟨U, rfl⟩ := Int.eq_ofNat_of_zero_le h.1
    obtain ⟨N, rfl⟩ := Int.eq_ofNat_of_zero_le h.2.2.1
    have e : sealR kk (U : Int) (N : Int) bs = (0, sealB kk U (BitVec.ofNat 64 N) bs) := by
      unfold sealR
      rw [hl, if_pos h, Int.toNat_natCast, Int.toNat_natCast]
    rw [e]
    refine (refSeal_ok hk U N h hl hs).mono ?_
    rintro v l' ⟨v1, le, rfl, ho, rfl⟩
    refine ⟨v1, le, rfl, ?_, rfl⟩
    rw [sealB_len, hl]
    exact ho
  · have e : sealR kk u n bs = (1, []) := by
      unfold sealR
      rw [hl, if_neg h]
    rw [e]
    refine (refSeal_bad h).mono ?_
    rintro v l' ⟨rfl, rfl⟩
    exact ⟨_, [], rfl, Own.nil .., rfl⟩
theorem Open_any {kk : List UInt8} (hk : kk.length = 32) {xb kb : Nat} {s o q : Int} (hco : 0 ≤ o ∧ o < 4611686018427387904) (hcq : 0 ≤ q ∧ q < 4611686018427387904) (m0 : Bool) (u : Int) {A : Option Addr} {len cap : Nat} {bs : List UInt8} {W : World} {r : List Ent} (hl : bs.length = len) (hlc : len ≤ cap) (hs : Src W r A (bs.map bv)) :
    Tr Pg 16 #[ptr xb, .int .i64 u, .slice A len cap] W (Box kb xb kk s o q m0 ++ r) fun v l' =>
      ∃ v1 le mm, v = .tuple #[v1, .int .i64 (openR kk u bs).1] ∧ Own 5 1 v1 (openR kk u bs).2.length ((openR kk u bs).2.map bv) le ∧ l' = le ++ (Box kb xb kk s (if (openR kk u bs).1 = 0 then o + 1 else o) (if (openR kk u bs).1 = 3 then q + 1 else q) mm ++ r) := by
  by_cases h : 0 ≤ u ∧ u ≤ 255
  · obtain ⟨U, rfl⟩ := Int.eq_ofNat_of_zero_le h.1
    refine (Open_ok hk hco hcq m0 U (by omega) hl hlc hs).mono ?_
    rintro v l' (⟨ps, v1, le, mm, he, rfl, ho, rfl⟩ | ⟨he, rfl, rfl⟩)
    · have e : openR kk (U : Int) bs = (0, ps) := by
        unfold openR
        rw [if_pos h, Int.toNat_natCast, he]
      rw [e]
      exact ⟨v1, le, mm, rfl, ho, rfl⟩
    · have e : openR kk (U : Int) bs = (3, []) := by
        unfold openR
        rw [if_pos h, Int.toNat_natCast, he]
      rw [e]
      exact ⟨_, [], m0, rfl, Own.nil .., rfl⟩
  · have e : openR kk u bs = (1, []) := by
      unfold openR
      rw [if_neg h]
    rw [e]
    refine (Open_bad h).mono ?_
    rintro v l' ⟨rfl, rfl⟩
    exact ⟨_, [], m0, rfl, Own.nil .., rfl⟩
theorem refOpen_any {kk : List UInt8} (hk : kk.length = 32) (u : Int) {A : Option Addr} {len cap : Nat} {bs : List UInt8} {W : World} {r : List Ent} (hl : bs.length = len) (hlc : len ≤ cap) (hs : Src W r A (bs.map bv)) :
    Tr Pg 17 #[.agg (kk.map bv).toArray, .int .i64 u, .slice A len cap] W r fun v l' =>
      ∃ v1 le, v = .tuple #[v1, .int .i64 (openR kk u bs).1] ∧ Own 5 1 v1 (openR kk u bs).2.length ((openR kk u bs).2.map bv) le ∧ l' = le ++ r := by
  by_cases h : 0 ≤ u ∧ u ≤ 255
  · obtain ⟨U, rfl⟩ := Int.eq_ofNat_of_zero_le h.1
    refine (refOpen_ok hk U (by omega) hl hlc hs).mono ?_
    rintro v l' (⟨ps, v1, le, he, rfl, ho, rfl⟩ | ⟨he, rfl, rfl⟩)
    · have e : openR kk (U : Int) bs = (0, ps) := by
        unfold openR
        rw [if_pos h, Int.toNat_natCast, he]
      rw [e]
      exact ⟨v1, le, rfl, ho, rfl⟩
    · have e : openR kk (U : Int) bs = (3, []) := by
        unfold openR
        rw [if_pos h, Int.toNat_natCast, he]
      rw [e]
      exact ⟨_, [], rfl, Own.nil .., rfl⟩
  · have e : openR kk u bs = (1, []) := by
      unfold openR
      rw [if_neg h]
    rw [e]
    refine (refOpen_bad h).mono ?_
    rintro v l' ⟨rfl, rfl⟩
    exact ⟨_, [], rfl, Own.nil .., rfl⟩
/-! ### What was sealed opens -/
theorem numS_shift (m : BitVec 64) : numS (m >>> 8) (UInt8.ofNat m.toNat) = m := by
  rw [← add_or]
  apply BitVec.eq_of_toNat_eq
  have hm := m.isLt
  rw [BitVec.toNat_add, BitVec.toNat_shiftLeft, BitVec.toNat_ushiftRight, BitVec.toNat_ofNat, Nat.shiftLeft_eq, Nat.shiftRight_eq_div_pow]
  have h3 : (UInt8.ofNat m.toNat).toNat = m.toNat % 256 := by simp
  rw [h3]
  omega
theorem num_step8 (n : BitVec 64) (j : Nat) : numS (n >>> (8 * (j + 1))) (byteAt n j) = n >>> (8 * j) := by
  rw [show 8 * (j + 1) = 8 * j + 8 from by omega, BitVec.shiftRight_add]
  exact numS_shift _
theorem numB_bigB (n : BitVec 64) : numB (bigB n) = n := by
  have h0 : (0 : BitVec 64) = n >>> (8 * (7 + 1)) := by
    apply BitVec.eq_of_toNat_eq
    have hm := n.isLt
    rw [BitVec.toNat_ushiftRight, Nat.shiftRight_eq_div_pow]
    show 0 = n.toNat / 2 ^ (8 * (7 + 1))
    omega
  show numS (numS (numS (numS (numS (numS (numS (numS 0 (byteAt n 7)) (byteAt n 6)) (byteAt n 5)) (byteAt n 4)) (byteAt n 3)) (byteAt n 2)) (byteAt n 1)) (byteAt n 0) = n
  rw [h0, num_step8 n 7, num_step8 n 6, num_step8 n 5, num_step8 n 4, num_step8 n 3, num_step8 n 2, num_step8 n 1, num_step8 n 0]
  simp
theorem xorB_back : ∀ (a s : List UInt8), s.length = a.length → xorB (xorB a s) s = a
  | [], _, _ => rfl
  | x :: a, y :: s, h => by
    have h1 : (x ^^^ y) ^^^ y = x := by rw [UInt8.xor_assoc, UInt8.xor_self, UInt8.xor_zero]
    have h2 := xorB_back a s (by simpa using h)
    unfold xorB at h2 ⊢
    simp only [List.zipWith_cons_cons, h1, h2]
theorem mixB_back (kk : List UInt8) (u : Nat) (nc : BitVec 64) (bs : List UInt8) : mixB kk u nc (mixB kk u nc bs) = bs := by
  have h := mixB_len kk u nc bs
  have e : mixB kk u nc (mixB kk u nc bs) = xorB (mixB kk u nc bs) (strB kk u nc (mixB kk u nc bs).length) := rfl
  rw [e, h]
  exact xorB_back bs _ (strB_len ..)
theorem open_seal (kk : List UInt8) (u n : Nat) (bs : List UInt8) (hn : n ≤ 1099511627776) (hl : bs.length ≤ 784) : openB kk u (sealB kk u (BitVec.ofNat 64 n) bs) = some bs := by
  have hbig : (bigB (BitVec.ofNat 64 n)).length = 8 := rfl
  have hmix := mixB_len kk u (BitVec.ofNat 64 n) bs
  have hlen := sealB_len kk u (BitVec.ofNat 64 n) bs
  have hah : (sealB kk u (BitVec.ofNat 64 n) bs).take ((sealB kk u (BitVec.ofNat 64 n) bs).length - 8) = bigB (BitVec.ofNat 64 n) ++ mixB kk u (BitVec.ofNat 64 n) bs := by
    rw [hlen]
    unfold sealB
    rw [List.take_append_of_le_length (by rw [List.length_append, hbig, hmix]; omega), List.take_of_length_le (by rw [List.length_append, hbig, hmix]; omega)]
  have htg : (sealB kk u (BitVec.ofNat 64 n) bs).drop ((sealB kk u (BitVec.ofNat 64 n) bs).length - 8) = tagB kk u (bigB (BitVec.ofNat 64 n) ++ mixB kk u (BitVec.ofNat 64 n) bs) := by
    rw [hlen]
    unfold sealB
    rw [List.drop_append, List.drop_of_length_le (by rw [List.length_append, hbig, hmix]; omega), List.nil_append, List.length_append, hbig, hmix, show 8 + bs.length + 8 - 8 - (8 + bs.length) = 0 from by omega, List.drop_zero]
  have h8 : (sealB kk u (BitVec.ofNat 64 n) bs).take 8 = bigB (BitVec.ofNat 64 n) := by
    unfold sealB
    rw [List.append_assoc, List.take_append_of_le_length (by rw [hbig]; omega), List.take_of_length_le (by rw [hbig]; omega)]
  have hnum : (numB (bigB (BitVec.ofNat 64 n))).toNat ≤ 1099511627776 := by
    rw [numB_bigB, BitVec.toNat_ofNat]
    exact Nat.le_trans (Nat.mod_le _ _) hn
  unfold openB
  rw [hah, htg, h8, if_pos ⟨by omega, by omega, hnum, rfl⟩, numB_bigB, List.drop_append, List.drop_of_length_le (by rw [hbig]; omega), List.nil_append, hbig, Nat.sub_self, List.drop_zero, mixB_back]
theorem openR_seal (kk : List UInt8) (u n : Int) (bs : List UInt8) (h : may u n bs.length) : openR kk u (sealR kk u n bs).2 = (0, bs) := by
  have e : (sealR kk u n bs).2 = sealB kk u.toNat (BitVec.ofNat 64 n.toNat) bs := by unfold sealR; rw [if_pos h]
  obtain ⟨h1, h2, h3, h4, h5⟩ := h
  unfold openR
  rw [e, if_pos ⟨h1, h2⟩, open_seal kk u.toNat n.toNat bs (by omega) h5]
end Go.Proofs.Ytmljohmhjajniaa
