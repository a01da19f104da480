import Derived.Test.YtplblpakbkgfeaaLgW
set_option linter.unusedVariables false
set_option linter.unusedSimpArgs false
namespace Go.Lg
open Go.RowKit
theorem put_comm (f : Fr) {a b : Nat} (x y : Value) (h : a ≠ b) : put (put f (some a) x) (some b) y = put (put f (some b) y) (some a) x := by
  funext i
  show (bif Nat.beq i b then y else (bif Nat.beq i a then x else f i)) = (bif Nat.beq i a then x else (bif Nat.beq i b then y else f i))
  cases h1 : Nat.beq i b with
  | false => rfl
  | true =>
    have : i = b := Nat.eq_of_beq_eq_true h1
    cases h2 : Nat.beq i a with
    | false => rfl
    | true => exact absurd ((Nat.eq_of_beq_eq_true h2).symm.trans this) h
section
variable {P : Program} {n : Nat} {W : World} {K : Kont} {f : Fr} {l : List Ent} {ops : Array Oper} {T : Tq} {fuel : Nat} {listed : Array Bool}
variable {op op' : Op} {ty ty' : TypeId} {pos pos' : String} {af af' : Array Edge} {gd gd' : Option (Nat × Bool)}
/-- Two effects in either order, of which the first one only answers: one way on. -/
theorem JD.eff2c {a b : Nat} {vj : Value} (Ψ : Value → List Ent → Prop) (j k : Nat) (hr : Region.ready .any ops listed = [j, k]) (hrj : Region.ready .any ops (listed.setIfInBounds j true) = [k]) (hrk : Region.ready .any ops (listed.setIfInBounds k true) = [j])
    (hj : ops[j]? = some ⟨some a, op, ty, pos, af, gd⟩) (hk : ops[k]? = some ⟨some b, op', ty', pos', af', gd'⟩) (hab : a ≠ b) (hjk : j ≠ k)
    (hwj : wantF ops n f gd = true) (hwk : wantF ops n f gd' = true) (hwk' : wantF ops n (put f (some a) vj) gd' = true) (hwj' : ∀ v, wantF ops n (put f (some b) v) gd = true)
    (e1 : Eff P W l ⟨some a, op, ty, pos, af, gd⟩ (ev n f) fun v l' => v = vj ∧ l' = l) (e2 : Eff P W l ⟨some b, op', ty', pos', af', gd'⟩ (ev n (put f (some a) vj)) Ψ)
    (e3 : Eff P W l ⟨some b, op', ty', pos', af', gd'⟩ (ev n f) Ψ) (e4 : ∀ v l', Ψ v l' → Eff P W l' ⟨some a, op, ty, pos, af, gd⟩ (ev n (put f (some b) v)) fun v' l'' => v' = vj ∧ l'' = l')
    (t1 : TOk T (listed.setIfInBounds j true) l) (t2 : ∀ v l', Ψ v l' → TOk T (listed.setIfInBounds k true) l')
    (tail : ∀ v l', Ψ v l' → TOk T ((listed.setIfInBounds j true).setIfInBounds k true) l' ∧ JD P n W ops K T fuel ((listed.setIfInBounds j true).setIfInBounds k true) (put (put f (some a) vj) (some b) v) l') :
    JD P n W ops K T (fuel + 2) listed f l := by
  refine JD.eff2 j k hr hj hwj hk hwk (e1.mono ?_) (e3.mono ?_)
  · rintro v l' ⟨rfl, rfl⟩
    exact ⟨t1, JD.eff k hrj hk hwk' (e2.mono tail)⟩
  · intro v l' h
    refine ⟨t2 v l' h, JD.eff j hrk hj (hwj' v) ((e4 v l' h).mono ?_)⟩
    rintro v' l'' ⟨rfl, rfl⟩
    have := tail v l'' h
    rw [Array.setIfInBounds_comm _ _ hjk.symm, put_comm _ _ _ hab.symm]
    exact this
end
section
variable {P : Program} {ρ : Operand → Value} {d : Option Tmp} {ty : TypeId} {pos : String} {af : Array Edge} {gd : Option (Nat × Bool)} {W : World} {l : List Ent} {Ψ : Value → List Ent → Prop}
/-- x / y, x % y of numbers that are not below nought. -/
theorem y_quo {t yt : TypeId} {x y : Operand} {a b : Nat} (hx : ρ x = .int .i64 (a : Int)) (hy : ρ y = .int .i64 (b : Int)) (hb : 0 < b) (ha : a ≤ 9223372036854775807) : Yld P ⟨d, .binOp .quo t x y yt, ty, pos, af, gd⟩ ρ (.int .i64 ((a / b : Nat) : Int)) :=
  y_bin hx hy fun w => by
    have hb0 : ¬ ((b : Int) = 0) := by omega
    have hq : (a : Int).tdiv (b : Int) = ((a / b : Nat) : Int) := by rw [Int.tdiv_eq_ediv_of_nonneg (by omega)]; norm_cast
    have hd : a / b ≤ a := Nat.div_le_self ..
    have hw0 : ∀ q : Nat, q ≤ a → IntKind.i64.wrap (q : Int) = (q : Int) := fun q h => wrap_add (by omega) (by omega)
    have hw := hw0 _ hd
    simp only [binOp, if_false, Op.intDiv, hb0, hq, hw, ne_eq, not_true]
    simp
theorem y_rem {t yt : TypeId} {x y : Operand} {a b : Nat} (hx : ρ x = .int .i64 (a : Int)) (hy : ρ y = .int .i64 (b : Int)) (hb : 0 < b) : Yld P ⟨d, .binOp .rem t x y yt, ty, pos, af, gd⟩ ρ (.int .i64 ((a % b : Nat) : Int)) :=
  y_bin hx hy fun w => by
    have hb0 : ¬ ((b : Int) = 0) := by omega
    have hq : (a : Int).tmod (b : Int) = ((a % b : Nat) : Int) := by rw [Int.tmod_eq_emod_of_nonneg (by omega)]; norm_cast
    simp only [binOp, if_false, Op.intDiv, hb0, hq, ne_eq, not_true]
    simp
/-- An element of an array that is a value. -/
theorem y_indexV {t e : TypeId} {x i : Operand} {cs : Array Value} {len j : Nat} {k : IntKind} {v : Value} [ht : ArrT P t len e] [hs : Sz P e 1] [ha : Agg P e false] (hx : ρ x = .agg cs) (hi : ρ i = .int k (j : Int)) (hj : j < len) (hv : cs[j]? = some v) :
    Yld P ⟨d, .index t x i, ty, pos, af, gd⟩ ρ v := fun w => by
  have h0 : (0 : Int) ≤ (j : Int) ∧ (j : Int) < (len : Int) := ⟨by omega, by omega⟩
  simp [execOp, hx, hi, Instr.index, asIntOf, run_underlying ht.h, run_sizeOf hs.h, part, run_isAgg ha.h, hv, hj]
/-- append where there is no room: a row of its own. -/
theorem e_appendGrow {t e : TypeId} {by_ n m c cap : Nat} {s x : Operand} {a a' : Addr} {olds news : List Value} [ht : SliceT P t e] [hi : RowT P e 1 by_]
    (hx : ρ s = .slice (some a) n cap) (ho : olds.length = n) (hso : ∀ w, SH W l w → ∀ j u, olds[j]? = some u → w.cell? (a.add j) = some u) (hy : ρ x = .slice (some a') m c) (hl : news.length = m) (hsn : ∀ w, SH W l w → ∀ j u, news[j]? = some u → w.cell? (a'.add j) = some u)
    (hg : cap < n + m) (hb : (n + m) * by_ ≤ 140737488355328) (h63 : n + m ≤ maxLen)
    (h : ∀ b cap', n + m ≤ cap' → cap' ≤ maxLen → Ψ (.slice (some ⟨b, 0, none⟩) (n + m) cap') ((b, isR e (cap' * 1) (olds ++ news)) :: l)) : Eff P W l ⟨d, .call { callee := .builtin .append, args := #[s, x], argTypes := #[t, t] }, ty, pos, af, gd⟩ ρ Ψ := by
  intro w hw
  obtain ⟨i, z, hi1, hi2, hi3, hi4, hi5, hi6⟩ := rowB_spec hi.h
  have h63' : ((n + m : Nat) : Int) ≤ 9223372036854775807 := by simp only [maxLen] at h63; omega
  have hfit : Builtin.nextslicecap (n + m) cap * i.bytes ≤ 281474976710656 := by
    have h1 := nextslicecap_le hg
    have h2 := Nat.mul_le_mul_right i.bytes h1
    rw [hi4] at h2 ⊢
    rw [Nat.mul_assoc] at h2
    omega
  have hr := run_append_grow (P := P) w t ty e i z ht.h hi1 hi2 a n cap olds (by rw [hi3]; omega) (hso w hw) a' m c news (by rw [hi3]; omega) (hsn w hw) hg h63' hfit
  unfold OpW
  simp only [execOp, resolve, Sem.run_bind, Sem.run_pure, Result.andThen_ok, invoke, builtin, List.map_toArray, List.map_cons, List.map_nil, hx, hy, hr]
  refine ⟨_, hw.drew.alloc _ (p := isR e (grownCap w (n + m) cap e * 1) (olds ++ news)) ?_, h _ _ (grownCap_ge w (n + m) cap e) (grownCap_le_maxLen w (n + m) cap e h63)⟩
  refine ⟨_, rfl, ?_, ?_⟩
  · have := grownCap_ge w (n + m) cap e
    simp only [Array.size_append, List.size_toArray, size_zeroCells, hi5, ho, hl]
    omega
  · simp only [Array.toList_append, List.append_assoc]
    rw [← List.append_assoc]
    exact List.take_left
/-- append within the capacity, onto the end of what is known of the row. -/
theorem e_appendIn {t e : TypeId} {by_ g o n m c cap tot : Nat} {s x : Operand} {a' : Addr} {xs news : List Value} (i : Nat) (he : l[i]? = some (g, isR e tot xs)) [ht : SliceT P t e] [hi : RowT P e 1 by_]
    (hx : ρ s = .slice (some ⟨g, o, none⟩) n cap) (hn : xs.length = o + n) (hy : ρ x = .slice (some a') m c) (hl : news.length = m) (hsn : ∀ w, SH W l w → ∀ j u, news[j]? = some u → w.cell? (a'.add j) = some u)
    (h1 : ∀ u ∈ news, u.oneCell' = true) (hroom : n + m ≤ cap) (hfit : o + cap ≤ tot)
    (h : Ψ (.slice (some ⟨g, o, none⟩) (n + m) cap) (l.set i (g, isR e tot (xs ++ news)))) : Eff P W l ⟨d, .call { callee := .builtin .append, args := #[s, x], argTypes := #[t, t] }, ty, pos, af, gd⟩ ρ Ψ := by
  intro w hw
  obtain ⟨io, z, hi1, hi2, hi3, hi4, hi5, hi6⟩ := rowB_spec hi.h
  obtain ⟨_, ob, hb, cur, rfl, htot, hxs⟩ := hw.at_ he
  have hrl := row_len hxs
  have hst : (storeCells ⟨g, o + n, none⟩ news).run P w = .ok () (setB w g (.cells (splice cur (o + n) news) e (0, 0))) := by
    have := run_storeCells P news (o + n) 0 cur w hb (.inl rfl) (by omega) h1
    simpa using this
  have hfirst : (Builtin.firstCells 1 m (.slice (some a') m c)).run P w = .ok news.toArray w := by
    simp only [Builtin.firstCells]
    rw [Nat.mul_one, ← hl]
    exact run_loadCells_list (P := P) w a' news (hsn w hw)
  have hr : (Builtin.append_ #[t, t] ty #[.slice (some ⟨g, o, none⟩) n cap, .slice (some a') m c]).run P w = .ok (.slice (some ⟨g, o, none⟩) (n + m) cap) (setB w g (.cells (splice cur (o + n) news) e (0, 0))) := by
    simp [Builtin.append_, run_underlying ht.h, sizeOf, typeInfo, hi1, hi3, Builtin.lenOf, hroom, hfirst, addr_add, hst]
  unfold OpW
  simp only [execOp, resolve, Sem.run_bind, Sem.run_pure, Result.andThen_ok, invoke, builtin, List.map_toArray, List.map_cons, List.map_nil, hx, hy, hr]
  refine ⟨_, hw.set_ he (setB_ok w hb _) ⟨_, rfl, by rw [splice_size]; exact htot, ?_⟩, h⟩
  apply List.ext_getElem?
  intro j
  rw [List.getElem?_take, Array.getElem?_toList, splice_get _ _ _ _ (by omega), List.length_append]
  by_cases hj : j < xs.length + news.length
  · rw [if_pos hj]
    by_cases h2 : o + n ≤ j
    · rw [if_pos ⟨h2, by omega⟩, List.getElem?_append_right (by omega), hn]
    · rw [if_neg (by omega), List.getElem?_append_left (by omega)]
      rw [row_get hxs (List.getElem?_eq_getElem (by omega)), List.getElem?_eq_getElem (by omega)]
  · rw [if_neg hj, List.getElem?_eq_none (by rw [List.length_append]; omega)]
end
/-- x[lo:], lo short of the capacity. -/
theorem y_sliceLt {P : Program} {ρ : Operand → Value} {d : Option Tmp} {ty : TypeId} {pos : String} {af : Array Edge} {gd : Option (Nat × Bool)} {t e : TypeId} {x lo : Operand} {b o len cap sz l : Nat} {k' : IntKind} [ht : SliceT P t e] [hs : Sz P e sz] (hx : ρ x = .slice (some ⟨b, o, none⟩) len cap) (hlo : ρ lo = .int k' (l : Int)) (hlh : l ≤ len) (hc : len ≤ cap) (hl : l < cap) :
    Yld P ⟨d, .slice t x (some lo) none none, ty, pos, af, gd⟩ ρ (.slice (some ⟨b, o + l * sz, none⟩) (len - l) (cap - l)) := by
  have := y_sliceFrom (P := P) (ρ := ρ) (d := d) (ty := ty) (pos := pos) (af := af) (gd := gd) (t := t) hx hlo hlh hc
  rwa [if_neg (by omega)] at this
theorem Src.cell {W : World} {r l : List Ent} {g o j : Nat} {xs : List Value} {u : Value} (h : Src W r (some ⟨g, o, none⟩) xs) (hj : xs[j]? = some u) (hr : ∀ e ∈ r, e ∈ l) {w : World} (hw : SH W l w) : w.cell? ⟨g, o + j, none⟩ = some u := by
  rcases h.rd hr with h0 | ⟨a, ha, hc⟩
  · subst h0; simp at hj
  · cases ha
    have := hc w hw j u hj
    rwa [addr_add] at this
end Go.Lg
