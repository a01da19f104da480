import Derived.Test.YtplblpakbkgfeaaLgX
set_option linter.unusedVariables false
set_option linter.unusedSimpArgs false
namespace Go.Proofs.Ytplblpakbkgfeaa
open Go.RowKit Go.Lg
theorem JD.eff0 {P : Program} {n : Nat} {W : World} {K : Kont} {f : Fr} {l : List Ent} {ops : Array Oper} {T : Tq} {fuel : Nat} {listed : Array Bool} {d : Option Tmp} {op : Op} {ty : TypeId} {pos : String} {af : Array Edge} {gd : Option (Nat × Bool)} (j : Nat) (hr : Region.ready .any ops listed = [j]) (hj : ops[j]? = some ⟨d, op, ty, pos, af, gd⟩) (hw : wantF ops n f gd = false)
    (ht : TOk T (listed.setIfInBounds j true) l) (h : JD P n W ops K T fuel (listed.setIfInBounds j true) (put f d undef) l) : JD P n W ops K T (fuel + 1) listed f l := by
  intro w hs _
  refine ⟨fun h0 => absurd (h0.symm.trans hr) (by simp), fun i hi => ?_⟩
  rw [hr] at hi
  obtain rfl : i = j := by simpa using hi
  unfold wpOp
  simp only [hj]
  rw [act_wanted, if_neg (by rw [hw]; simp), act_put]
  exact ⟨ht.tk w hs, h w hs (ht.tk w hs)⟩
theorem JD.cut {P : Program} {n : Nat} {W : World} {K : Kont} {f : Fr} {l : List Ent} {ops : Array Oper} {T : Tq} {fuel : Nat} {listed : Array Bool} (I : Fr → List Ent → Prop) (fuel' : Nat) (listed' : Array Bool) (ht : ∀ f l, I f l → JD P n W ops K T fuel' listed' f l)
    (h : (∀ f l, I f l → JD P n W ops K T fuel' listed' f l) → JD P n W ops K T fuel listed f l) : JD P n W ops K T fuel listed f l := h ht
theorem JD.lcast {P : Program} {n : Nat} {W : World} {K : Kont} {f : Fr} {l : List Ent} {ops : Array Oper} {T : Tq} {fuel : Nat} {listed listed' : Array Bool} (e : listed = listed') (h : JD P n W ops K T fuel listed' f l) : JD P n W ops K T fuel listed f l := e ▸ h
theorem JD.frame {P : Program} {n : Nat} {W : World} {K : Kont} {f : Fr} {l : List Ent} {ops : Array Oper} {T : Tq} {fuel : Nat} {listed : Array Bool} (hs : List (Nat × Value)) (h : FrOk f hs) (hJ : ∀ f', JD P n W ops K T fuel listed (puts f' hs) l) : JD P n W ops K T fuel listed f l := by
  have := hJ f
  rwa [puts_self f hs h] at this
end Go.Proofs.Ytplblpakbkgfeaa
