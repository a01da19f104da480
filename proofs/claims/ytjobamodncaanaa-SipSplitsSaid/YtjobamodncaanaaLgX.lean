import Derived.Test.YtjobamodncaanaaLgW
set_option linter.unusedVariables false
set_option linter.unusedSimpArgs false
namespace Go.Lg
open Go.RowKit
theorem put_comm (f : Fr) {a b : Nat} (x y : Value) (h : a ≠ b) : put (put f (some a) x) (some b) y = put (put f (some b) y) (some a) x := by
  funext i
  show (bif Nat.beq i b then y else (bif Nat.beq i a then x else f i)) = (bif Nat.beq i a then x else (bif Nat.beq i b then y else f i))
  cases h1 : Nat.beq i b with
  | false => rfl
  | true =>
    have : i = b := Nat.eq_of_beq_eq_true h1
    cases h2 : Nat.beq i a with
    | false => rfl
    | true => exact absurd ((Nat.eq_of_beq_eq_true h2).symm.trans this) h
section
variable {P : Program} {n : Nat} {W : World} {K : Kont} {f : Fr} {l : List Ent} {ops : Array Oper} {T : Tq} {fuel : Nat} {listed : Array Bool}
variable {op op' : Op} {ty ty' : TypeId} {pos pos' : String} {af af' : Array Edge} {gd gd' : Option (Nat × Bool)}
/-- Two effects in either order, of which the first one only answers: one way on. -/
theorem JD.eff2c {a b : Nat} {vj : Value} (Ψ : Value → List Ent → Prop) (j k : Nat) (hr : Region.ready .any ops listed = [j, k]) (hrj : Region.ready .any ops (listed.setIfInBounds j true) = [k]) (hrk : Region.ready .any ops (listed.setIfInBounds k true) = [j])
    (hj : ops[j]? = some ⟨some a, op, ty, pos, af, gd⟩) (hk : ops[k]? = some ⟨some b, op', ty', pos', af', gd'⟩) (hab : a ≠ b) (hjk : j ≠ k)
    (hwj : wantF ops n f gd = true) (hwk : wantF ops n f gd' = true) (hwk' : wantF ops n (put f (some a) vj) gd' = true) (hwj' : ∀ v, wantF ops n (put f (some b) v) gd = true)
    (e1 : Eff P W l ⟨some a, op, ty, pos, af, gd⟩ (ev n f) fun v l' => v = vj ∧ l' = l) (e2 : Eff P W l ⟨some b, op', ty', pos', af', gd'⟩ (ev n (put f (some a) vj)) Ψ)
    (e3 : Eff P W l ⟨some b, op', ty', pos', af', gd'⟩ (ev n f) Ψ) (e4 : ∀ v l', Ψ v l' → Eff P W l' ⟨some a, op, ty, pos, af, gd⟩ (ev n (put f (some b) v)) fun v' l'' => v' = vj ∧ l'' = l')
    (t1 : TOk T (listed.setIfInBounds j true) l) (t2 : ∀ v l', Ψ v l' → TOk T (listed.setIfInBounds k true) l')
    (tail : ∀ v l', Ψ v l' → TOk T ((listed.setIfInBounds j true).setIfInBounds k true) l' ∧ JD P n W ops K T fuel ((listed.setIfInBounds j true).setIfInBounds k true) (put (put f (some a) vj) (some b) v) l') :
    JD P n W ops K T (fuel + 2) listed f l := by
  refine JD.eff2 j k hr hj hwj hk hwk (e1.mono ?_) (e3.mono ?_)
  · rintro v l' ⟨rfl, rfl⟩
    exact ⟨t1, JD.eff k hrj hk hwk' (e2.mono tail)⟩
  · intro v l' h
    refine ⟨t2 v l' h, JD.eff j hrk hj (hwj' v) ((e4 v l' h).mono ?_)⟩
    rintro v' l'' ⟨rfl, rfl⟩
    have := tail v l'' h
    rw [Array.setIfInBounds_comm _ _ hjk.symm, put_comm _ _ _ hab.symm]
    exact this
end
end Go.Lg
