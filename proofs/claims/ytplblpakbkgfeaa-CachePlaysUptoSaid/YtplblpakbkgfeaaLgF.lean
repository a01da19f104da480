import Derived.Test.YtplblpakbkgfeaaLgE
import Derived.Laws.BytesString
import Derived.Laws.MakeOwn
set_option linter.unusedVariables false
set_option linter.unusedSimpArgs false
namespace Go.Lg
open Go.RowKit
variable {P : Program} {ρ : Operand → Value} {d : Option Tmp} {ty : TypeId} {pos : String} {af : Array Edge} {gd : Option (Nat × Bool)} {W : World} {l : List Ent} {Ψ : Value → List Ent → Prop}
/-! ### The mark on a constant string's bytes -/
theorem e_mark {t e : TypeId} {x : Operand} {b n c tot : Nat} {xs : List Value} (i : Nat) (he : l[i]? = some (b, isR e tot xs)) [ht : SliceT P t e] [hu : IntT P e .u8] (hx : ρ x = .slice (some ⟨b, 0, none⟩) n c) (hl : xs.length = tot)
    (h : Ψ (.slice (some ⟨b, 0, none⟩) n c) (l.set i (b, isC e xs))) : Eff P W l ⟨d, .convert t t x, ty, pos, af, gd⟩ ρ Ψ := by
  intro w hw
  obtain ⟨_, ob, hb, cur, rfl, htot, hxs⟩ := hw.at_ he
  have hcur : cur = xs.toArray := by
    apply Array.ext'
    rw [← hxs, List.take_of_length_le (by simp; omega)]
  have hsh : w.shape? b = some (e, cur.size) := by unfold World.shape?; rw [hb]
  have hfr : w.freeze ⟨b, cur.size, none⟩ 1 = setB w b (.cells cur e (cur.size, cur.size + 1)) := by
    unfold World.freeze setB
    rw [if_neg (by decide)]
    congr 1
    apply Array.ext_getElem?
    intro j
    by_cases hj : b = j
    · subst hj
      have hb' : w.heap[b]? = some (.cells cur e (0, 0)) := hb
      have hlt := (Array.getElem?_eq_some_iff.1 hb').1
      rw [Array.getElem?_modify, Array.getElem?_setIfInBounds_self_of_lt hlt]
      simp [hb']
    · rw [Array.getElem?_modify, Array.getElem?_setIfInBounds_ne hj, if_neg hj]
  have hr : (convert t t (.slice (some ⟨b, 0, none⟩) n c)).run P w = .ok (.slice (some ⟨b, 0, none⟩) n c) (setB w b (.cells cur e (cur.size, cur.size + 1))) := by
    simp [convert, run_underlying ht.h, run_underlying hu.h, markStringish, hsh, hfr]
  unfold OpW
  simp only [execOp, hx, Sem.run_bind, hr, Result.andThen_ok, Sem.run_pure]
  exact ⟨_, hw.set_ he (setB_ok w hb _) ⟨(cur.size, cur.size + 1), by rw [hcur], .inr (by simp [htot, hl])⟩, h⟩
/-! ### make of n one-cell elements -/
theorem e_make {t e : TypeId} {x y : Operand} {n by_ : Nat} {z : Value} {k k' : IntKind} [ht : SliceT P t e] [hi : RowT P e 1 by_] [hz : Zr P e [z]] (hx : ρ x = .int k (n : Int)) (hy : ρ y = .int k' (n : Int)) (hb : by_ * n ≤ 281474976710656) (h63 : n ≤ maxLen)
    (h : ∀ b, Ψ (.slice (some ⟨b, 0, none⟩) n n) ((b, isR e (n * 1) (List.replicate n z)) :: l)) : Eff P W l ⟨d, .makeSlice t x y, ty, pos, af, gd⟩ ρ Ψ := by
  obtain ⟨i, zv, hi1, hi2, hi3, hi4, hi5, hi6⟩ := rowB_spec hi.h
  have hzc : zv.cells = #[z] := by
    have := hz.h
    simp [zeroB, hi1, hi2] at this
    exact this
  have hcells : madeCells zv.cells (n * i.size) = (List.replicate n z).toArray := by
    rw [hi3, hzc]
    apply Array.ext
    · simp [madeCells]
    · intro j h1 h2
      simp [madeCells, Nat.mod_one]
  refine e_new (ob := .cells (List.replicate n z).toArray e) (v := fun b => .slice (some ⟨b, 0, none⟩) n n) (fun w => ?_) ?_ h
  · have h63' : (n : Int) ≤ 9223372036854775807 := by
      have h := h63
      simp [maxLen] at h
      omega
    have hb' : (i.bytes : Int) * (n : Int) ≤ 281474976710656 := by
      have h : ((i.bytes * n : Nat) : Int) ≤ 281474976710656 := by rw [hi4]; omega
      rwa [Int.natCast_mul] at h
    have hr := run_make (P := P) w t e i zv ht.h hi1 hi2 k k' n n (by omega) (Int.le_refl _) hb' h63'
    simp only [Int.toNat_natCast, hcells] at hr
    simp only [execOp, hx, hy, Sem.run_bind, hr, Result.andThen_ok, Sem.run_pure]
  · have := isR_mk e (List.replicate n z).toArray
    simpa using this
/-! ### Strings of bytes -/
def ba (bs : List UInt8) : ByteArray := ⟨bs.toArray⟩
theorem foldl_push_ba : ∀ (bs : List UInt8) (s : ByteArray), (bs.map fun b => (b.toNat : Int)).foldl (fun r n => r.push (UInt8.ofNat n.toNat)) s = ⟨s.data ++ bs.toArray⟩
  | [], s => by simp
  | b :: bs, s => by
    simp only [List.map_cons, List.foldl_cons]
    rw [foldl_push_ba bs]
    congr 1
    simp [ByteArray.push]
theorem loop_toList (a : ByteArray) : ∀ (k i : Nat) (r : List UInt8), a.size - i = k → ByteArray.toList.loop a i r = r.reverse ++ a.data.toList.drop i := by
  intro k
  induction k with
  | zero =>
    intro i r h
    unfold ByteArray.toList.loop
    have hs : a.data.toList.length = a.size := rfl
    rw [if_neg (by omega), List.drop_of_length_le (by omega), List.append_nil]
  | succ k ih =>
    intro i r h
    unfold ByteArray.toList.loop
    rw [if_pos (by omega), ih (i + 1) _ (by omega)]
    have hs : a.data.toList.length = a.size := rfl
    rw [List.reverse_cons, List.append_assoc, List.drop_eq_getElem_cons (i := i) (by omega)]
    congr 2
    have hi : i < a.data.size := by
      have : a.data.size = a.size := rfl
      omega
    simp [ByteArray.get!, getElem!_def, Array.getElem?_eq_getElem hi]
theorem ba_toList (bs : List UInt8) : (ba bs).toList = bs := by
  unfold ByteArray.toList
  rw [loop_toList (ba bs) _ 0 [] rfl]
  simp [ba]
theorem ba_eq (a b : List UInt8) : ((ba a).toList == (ba b).toList) = (a == b) := by rw [ba_toList, ba_toList]
theorem run_str {t s e : TypeId} [ht : SliceT P t e] [hu : IntT P e .u8] [hs : StrT P s] {w : World} {a : Addr} {n c : Nat} {bs : List UInt8} (hl : bs.length = n) (hc : ∀ j u, (bs.map bv)[j]? = some u → w.cell? (a.add j) = some u) :
    (convert t s (.slice (some a) n c)).run P w = .ok (.string (ba bs)) w := by
  have h1 := run_loadCells_list (P := P) w a (bs.map bv) hc
  have h2 : bs.map bv = (bs.map fun b => (b.toNat : Int)).map (Value.int .u8) := by simp [bv]
  rw [List.length_map, hl, h2] at h1
  rw [run_convert_bytes_string w t s e _ n c ht.h hu.h hs.h, run_bytesToString w a n c _ h1, foldl_push_ba]
  simp [ba, ByteArray.empty, ByteArray.emptyWithCapacity]
  rfl
theorem r_strR {t s e T : TypeId} {x : Operand} {b o n c tot : Nat} {xs : List Value} {bs : List UInt8} [ht : SliceT P t e] [hu : IntT P e .u8] [hs : StrT P s] (h : ρ x = .slice (some ⟨b, o, none⟩) n c) (hl : bs.length = n) (hx : ∀ j u, (bs.map bv)[j]? = some u → xs[o + j]? = some u) :
    YldIf P (At b (isR T tot xs)) ⟨d, .convert t s x, ty, pos, af, gd⟩ ρ (.string (ba bs)) := by
  rintro w ⟨_, hb, cur, rfl, _, ht⟩
  have hr := run_str (P := P) (t := t) (s := s) (w := w) (a := ⟨b, o, none⟩) (n := n) (c := c) hl fun j u hu => by
    rw [addr_add, cell_at hb]
    exact row_get ht (hx j u hu)
  simp only [execOp, h, Sem.run_bind, hr, Result.andThen_ok, Sem.run_pure]
theorem w_str {t s e : TypeId} {x : Operand} {a : Addr} {n c : Nat} {bs : List UInt8} [ht : SliceT P t e] [hu : IntT P e .u8] [hs : StrT P s] (h : ρ x = .slice (some a) n c) (hl : bs.length = n) (hx : ∀ j u, (bs.map bv)[j]? = some u → W.cell? (a.add j) = some u) :
    YldIf P (Was W) ⟨d, .convert t s x, ty, pos, af, gd⟩ ρ (.string (ba bs)) := by
  intro w hw
  have hr := run_str (P := P) (t := t) (s := s) (w := w) (a := a) (n := n) (c := c) hl fun j u hu => by
    have := hx j u hu
    exact (Below.cell hw (World.block_lt_of_cell? W _ this)).trans this
  simp only [execOp, h, Sem.run_bind, hr, Result.andThen_ok, Sem.run_pure]
theorem y_strNil {t s e : TypeId} {x : Operand} {n c : Nat} [ht : SliceT P t e] [hu : IntT P e .u8] [hs : StrT P s] (h : ρ x = .slice none n c) : Yld P ⟨d, .convert t s x, ty, pos, af, gd⟩ ρ (.string (ba [])) := fun w => by
  have hr : (convert t s (.slice none n c)).run P w = .ok (.string (ba [])) w := by
    rw [run_convert_bytes_string w t s e _ n c ht.h hu.h hs.h]
    simp [Conv.bytesToString, ba, ByteArray.empty, ByteArray.emptyWithCapacity]
    rfl
  simp only [execOp, h, Sem.run_bind, hr, Result.andThen_ok, Sem.run_pure]
/-- string(x) of bytes that lie anywhere: an effect that changes nothing. -/
theorem e_str {t s e : TypeId} {x : Operand} {A : Option Addr} {n c : Nat} {bs : List UInt8} [ht : SliceT P t e] [hu : IntT P e .u8] [hs : StrT P s] (h : ρ x = .slice A n c) (hl : bs.length = n) (hr : Src W l A (bs.map bv)) (hA : A = none → bs = [])
    (hΨ : Ψ (.string (ba bs)) l) : Eff P W l ⟨d, .convert t s x, ty, pos, af, gd⟩ ρ Ψ := by
  intro w hw
  have hcv : (convert t s (.slice A n c)).run P w = .ok (.string (ba bs)) w := by
    cases A with
    | none =>
      rw [hA rfl, run_convert_bytes_string w t s e _ n c ht.h hu.h hs.h]
      simp [Conv.bytesToString, ba, ByteArray.empty, ByteArray.emptyWithCapacity]
      rfl
    | some a =>
      rcases hr.rd (l := l) (fun _ h => h) with h0 | ⟨a', ha, hc⟩
      · have : bs = [] := List.map_eq_nil_iff.1 h0
        subst this
        exact run_str hl (by simp)
      · cases ha
        exact run_str hl (hc w hw)
  unfold OpW
  simp only [execOp, h, Sem.run_bind, hcv, Result.andThen_ok, Sem.run_pure]
  exact ⟨_, hw, hΨ⟩
end Go.Lg
