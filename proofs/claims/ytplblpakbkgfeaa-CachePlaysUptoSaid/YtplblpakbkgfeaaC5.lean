import Derived.Test.YtplblpakbkgfeaaC4
set_option linter.unusedVariables false
set_option linter.unusedSimpArgs false
namespace Go.Proofs.Ytplblpakbkgfeaa
open Go.RowKit Go.Lg
attribute [local irreducible] JC JL JD RN RT Eff Yld YldIf Tr
def keepI (z : Int) (x : It) : Bool := decide (z ≤ x.c.en)
def setI (p q : ByteArray) (c : Crd) (x : It) : It := if It.is p q x then ⟨x.a, x.b, c⟩ else x
/-- What Put answers, and what is there then. -/
def putR (p q : ByteArray) (c : Crd) (now : Int) (L : List It) : Int × List It :=
  match look p q (L.filter (keepI now)) with
  | some _ => (0, (L.filter (keepI now)).map (setI p q c))
  | none => if 10 ≤ (L.filter (keepI now)).length then (13, L.filter (keepI now)) else (0, L.filter (keepI now) ++ [⟨p, q, c⟩])
theorem keep_abs (now : Int) (Q : List Qe) : (Q.map Qe.abs).filter (keepI now) = (Q.filter (keep now)).map Qe.abs := by
  rw [List.filter_map]
  rfl
theorem is_eq {p q : ByteArray} {x : Qe} (h : It.is p q x.abs = true) : p = x.a ∧ q = x.b := by
  simp only [It.is, Bool.and_eq_true] at h
  exact ⟨(MapKept.bytes_beq _ _).1 h.1, (MapKept.bytes_beq _ _).1 h.2⟩
theorem look_none {p q : ByteArray} {Q : List Qe} (h : look p q (Q.map Qe.abs) = none) : ∀ x ∈ Q, ¬ (x.a = p ∧ x.b = q) := by
  rintro x hx ⟨rfl, rfl⟩
  simp only [look, Option.map_eq_none_iff, List.find?_eq_none] at h
  have hr : ∀ s : ByteArray, (s == s) = true := fun s => (MapKept.bytes_beq _ _).2 rfl
  exact h x.abs (List.mem_map_of_mem hx) (by simp [It.is, Qe.abs, hr])
theorem Qok.push {Q : List Qe} {clock : Nat} {p q : ByteArray} {c : Crd} {A : Option Addr} {n cc : Nat} (h : Qok Q clock) (hn : look p q (Q.map Qe.abs) = none) : Qok (Q ++ [⟨p, q, c, .slice A n cc, clock⟩]) (clock + 1) := by
  obtain ⟨h1, h2, h3, h4⟩ := h
  refine ⟨fun x hx => ?_, ?_, ?_, fun x hx => ?_⟩
  · rcases List.mem_append.1 hx with hx | hx
    · have := h1 x hx; omega
    · rw [List.mem_singleton.1 hx]; exact Nat.lt_succ_self _
  · rw [List.map_append, List.nodup_append]
    refine ⟨h2, by simp, fun a ha b hb => ?_⟩
    obtain ⟨x, hx, rfl⟩ := List.mem_map.1 ha
    simp at hb
    have := h1 x hx
    omega
  · rw [List.pairwise_append]
    exact ⟨h3, by simp, fun x hx y hy => by rw [List.mem_singleton.1 hy]; exact look_none hn x hx⟩
  · rcases List.mem_append.1 hx with hx | hx
    · exact h4 x hx
    · rw [List.mem_singleton.1 hx]; exact ⟨A, n, cc, rfl⟩
def setQ (c : Crd) (d : Value) (x : Qe) : Qe := ⟨x.a, x.b, c, d, x.t⟩
theorem map_modify_same {α β : Type} (f : α → β) (g : α → α) (h : ∀ x, f (g x) = f x) (l : List α) (j : Nat) : (l.modify j g).map f = l.map f := by
  apply List.ext_getElem?
  intro i
  simp only [List.getElem?_map, List.getElem?_modify]
  cases l[i]? with
  | none => simp
  | some x => by_cases hj : j = i <;> simp [hj, h]
theorem Qok.set {Q : List Qe} {clock j : Nat} {c : Crd} {A : Option Addr} {n cc : Nat} (h : Qok Q clock) : Qok (Q.modify j (setQ c (.slice A n cc))) clock := by
  obtain ⟨h1, h2, h3, h4⟩ := h
  have hm : ∀ x ∈ Q.modify j (setQ c (.slice A n cc)), x ∈ Q ∨ ∃ y ∈ Q, x = setQ c (.slice A n cc) y := fun x hx => by
    obtain ⟨i, hi⟩ := List.getElem?_of_mem hx
    rw [List.getElem?_modify] at hi
    cases hq : Q[i]? with
    | none => simp [hq] at hi
    | some y =>
      by_cases hj : j = i
      · simp [hq, hj] at hi
        exact .inr ⟨y, List.mem_of_getElem? hq, hi.symm⟩
      · simp [hq, hj] at hi
        exact .inl (hi ▸ List.mem_of_getElem? hq)
  refine ⟨fun x hx => ?_, ?_, ?_, fun x hx => ?_⟩
  · rcases hm x hx with h | ⟨y, hy, rfl⟩
    · exact h1 x h
    · exact h1 y hy
  · rw [map_modify_same (fun x : Qe => x.t) (setQ c (.slice A n cc)) (fun _ => rfl)]
    exact h2
  · have e := map_modify_same (fun x : Qe => (x.a, x.b)) (setQ c (.slice A n cc)) (fun _ => rfl) Q j
    have h3' : (Q.map fun x : Qe => (x.a, x.b)).Pairwise fun y z => ¬ (y.1 = z.1 ∧ y.2 = z.2) := by rw [List.pairwise_map]; exact h3
    rw [← e, List.pairwise_map] at h3'
    exact h3'
  · rcases hm x hx with h | ⟨y, hy, rfl⟩
    · exact h4 x h
    · exact ⟨A, n, cc, rfl⟩
/-- The entry set in place, as the world sees it. -/
theorem set_abs {p q : ByteArray} {c : Crd} {d : Value} {Q : List Qe} {j : Nat} {x : Qe} (h : Q.Pairwise (fun y z => ¬ (y.a = z.a ∧ y.b = z.b))) (hj : Q[j]? = some x) (hx : It.is p q x.abs = true) :
    (Q.modify j (setQ c d)).map Qe.abs = (Q.map Qe.abs).map (setI p q c) := by
  apply List.ext_getElem?
  intro i
  simp only [List.getElem?_map, List.getElem?_modify]
  cases hi : Q[i]? with
  | none => simp
  | some y =>
    by_cases hji : j = i
    · subst hji
      rw [hj] at hi
      cases hi
      simp [setI, hx]
      rfl
    · have hy : It.is p q y.abs = false := by
        cases hc : It.is p q y.abs with
        | false => rfl
        | true =>
          obtain ⟨e1, e2⟩ := is_eq hx
          obtain ⟨e3, e4⟩ := is_eq hc
          have hjl := (List.getElem?_eq_some_iff.1 hj)
          have hil := (List.getElem?_eq_some_iff.1 hi)
          obtain ⟨hjl, rfl⟩ := hjl
          obtain ⟨hil, rfl⟩ := hil
          have hp := List.pairwise_iff_getElem.1 h
          rcases Nat.lt_or_gt_of_ne hji with hlt | hlt
          · exact absurd ⟨e1 ▸ e3, e2 ▸ e4⟩ (hp j i hjl hil hlt)
          · exact absurd ⟨e3 ▸ e1, e4 ▸ e2⟩ (hp i j hil hjl hlt)
      simp [hji, setI, hy]
end Go.Proofs.Ytplblpakbkgfeaa
