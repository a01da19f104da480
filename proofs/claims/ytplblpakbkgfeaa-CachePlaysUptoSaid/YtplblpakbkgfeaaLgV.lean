import Derived.Test.YtplblpakbkgfeaaLgZ
import Derived.ChangeKeysEq
import Derived.Laws.StructEq
set_option linter.unusedVariables false
set_option linter.unusedSimpArgs false
namespace Go.Lg
open Go.RowKit
section
variable {P : Program} {ρ : Operand → Value} {d : Option Tmp} {ty : TypeId} {pos : String} {af : Array Edge} {gd : Option (Nat × Bool)} {W : World} {l : List Ent} {Ψ : Value → List Ent → Prop}
/-- What == of a type answers, at every depth that it needs. -/
def EqAns (P : Program) (K : Nat) (t : TypeId) (x y : Value) (r : Bool) : Prop := ∀ q w, (Op.equalIn (q + K) t x y).run P w = .ok r w
theorem EqAns.more {K K' : Nat} {t : TypeId} {x y : Value} {r : Bool} (h : EqAns P K t x y r) (hk : K ≤ K') : EqAns P K' t x y r := fun q w => by
  rw [show q + K' = (q + (K' - K)) + K by omega]
  exact h _ w
theorem EqAns.int {t : TypeId} {k : IntKind} {a b : Int} [ht : IntT P t k] : EqAns P 1 t (.int k a) (.int k b) (decide (a = b)) := fun q w => by
  rw [run_equalIn_int w q t k k a b ht.h]
  by_cases h : a = b <;> simp [h]
theorem EqAns.str {t : TypeId} {a b : ByteArray} [ht : StrT P t] : EqAns P 1 t (.string a) (.string b) (a.toList == b.toList) := fun q w => run_equalIn_string w q t a b ht.h
theorem eqItems_bytes {e : TypeId} [he : IntT P e .u8] [ha : Agg P e false] (q : Nat) (w : World) (as bs : List UInt8) (n : Nat) (hla : as.length = n) (hlb : bs.length = n) :
    ∀ m i, i + m = n → (Op.eqItems (q + 1) e 1 (as.map bv).toArray (bs.map bv).toArray (List.range' i m)).run P w = .ok (decide (as.drop i = bs.drop i)) w := by
  intro m
  induction m with
  | zero =>
    intro i hi
    have h1 : as.drop i = [] := List.drop_eq_nil_of_le (by omega)
    have h2 : bs.drop i = [] := List.drop_eq_nil_of_le (by omega)
    simp [Op.eqItems, h1, h2]
  | succ m ih =>
    intro i hi
    have hia : i < as.length := by omega
    have hib : i < bs.length := by omega
    have hpart : ∀ cs : List UInt8, (h : i < cs.length) → (part e (cs.map bv).toArray (i * 1)).run P w = .ok (bv (cs[i]'h)) w := fun cs h => by
      refine run_part' ha.h ?_
      simp [List.getElem?_eq_getElem h]
    have heq : (Op.equalIn (q + 1) e (bv (as[i]'hia)) (bv (bs[i]'hib))).run P w = .ok (decide (as[i]'hia = bs[i]'hib)) w := by
      have := (EqAns.int (P := P) (t := e) (k := .u8) (a := ((as[i]'hia).toNat : Int)) (b := ((bs[i]'hib).toNat : Int))) q w
      refine this.trans ?_
      congr 1
      have : (((as[i]'hia).toNat : Int) = ((bs[i]'hib).toNat : Int)) ↔ as[i]'hia = bs[i]'hib := by
        constructor
        · intro h; exact UInt8.toNat_inj.1 (by exact_mod_cast h)
        · intro h; rw [h]
      simp only [this]
    rw [List.range'_succ]
    simp only [Op.eqItems, Sem.run_bind, hpart as hia, hpart bs hib, heq, Result.andThen_ok]
    rw [List.drop_eq_getElem_cons hia, List.drop_eq_getElem_cons hib]
    by_cases h : as[i]'hia = bs[i]'hib
    · simp only [h, decide_true, Bool.not_true, Bool.false_eq_true, if_false, ih (i + 1) (by omega), List.cons.injEq, true_and]
    · rw [decide_eq_false h, decide_eq_false (fun e => h (List.cons.inj e).1)]
      rfl
where
  run_part' {t : TypeId} {w : World} {cs : Array Value} {o : Nat} {v : Value} (ha : aggB P t = some false) (hv : cs[o]? = some v) : (part t cs o).run P w = .ok v w := by
    simp [part, run_isAgg ha, hv]
theorem EqAns.bytes {t e : TypeId} {n : Nat} {as bs : List UInt8} [ht : ArrT P t n e] [he : IntT P e .u8] [ha : Agg P e false] [hs : Sz P e 1] (hla : as.length = n) (hlb : bs.length = n) :
    EqAns P 2 t (.agg (as.map bv).toArray) (.agg (bs.map bv).toArray) (decide (as = bs)) := fun q w => by
  have hsz := hs.h
  unfold szB at hsz
  obtain ⟨i, hi, h1⟩ := Option.map_eq_some_iff.1 hsz
  have hc : P.cellsOf e = 1 := by simp [Program.cellsOf, hi, h1]
  rw [show q + 2 = (q + 1) + 1 from rfl, run_equalIn_array w (q + 1) _ _ ht.h hi, hc, List.range_eq_range']
  have := eqItems_bytes (P := P) (e := e) q w as bs n hla hlb n 0 (by omega)
  simpa using this
class NoGuard (P : Program) (t : Nat) : Prop where
  h : P.eqGuardType P.depth t = false
theorem y_eqlAns {K : Nat} {t yt : TypeId} {x y : Operand} {xs ys : Array Value} {r : Bool} [hg : NoGuard P t] (hx : ρ x = .agg xs) (hy : ρ y = .agg ys) (h : EqAns P K t (.agg xs) (.agg ys) r) (hK : K ≤ 10000) : Yld P ⟨d, .binOp .eql t x y yt, ty, pos, af, gd⟩ ρ (.bool r) := fun w => by
  have := h (10000 - K) w
  rw [show 10000 - K + K = 10000 by omega] at this
  refine run_bin w (by rw [hx, hy]; exact run_eqGuard_agg w _ t x y xs ys hg.h) ?_
  rw [hx, hy, run_eql_struct, this]
  rfl
theorem y_neqAns {K : Nat} {t yt : TypeId} {x y : Operand} {xs ys : Array Value} {r : Bool} [hg : NoGuard P t] (hx : ρ x = .agg xs) (hy : ρ y = .agg ys) (h : EqAns P K t (.agg xs) (.agg ys) r) (hK : K ≤ 10000) : Yld P ⟨d, .binOp .neq t x y yt, ty, pos, af, gd⟩ ρ (.bool !r) := fun w => by
  have := h (10000 - K) w
  rw [show 10000 - K + K = 10000 by omega] at this
  refine run_bin w (by rw [hx, hy]; exact run_eqGuard_agg w _ t x y xs ys hg.h) ?_
  rw [hx, hy, run_neq_struct, this]
  rfl
end
end Go.Lg
