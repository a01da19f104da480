import Derived.Test.YtplblpakbkgfeaaLgM
set_option linter.unusedVariables false
set_option linter.unusedSimpArgs false
namespace Go.Lg
open Go.RowKit

theorem wrap_add {c : Int} (h1 : -9223372036854775808 ≤ c) (h2 : c ≤ 9223372036854775807) : IntKind.i64.wrap c = c := by
  simp [IntKind.wrap, IntKind.bits, IntKind.signed]; omega
theorem SH.perm {W w : World} {l l' : List Ent} (h : SH W l w) (hp : l.Perm l') : SH W l' w :=
  ⟨h.below, (hp.map _).nodup_iff.1 h.nodup, fun e he => h.ents e (hp.mem_iff.2 he)⟩
theorem SH.sub {W w : World} {l l' : List Ent} (h : SH W l w) (hp : l'.Sublist l) : SH W l' w :=
  ⟨h.below, (hp.map _).nodup h.nodup, fun e he => h.ents e (hp.subset he)⟩
theorem Eff.perm {P : Program} {W : World} {l l' : List Ent} {o : Oper} {ρ : Operand → Value} {Ψ : Value → List Ent → Prop} (hp : l.Perm l') (h : Eff P W l' o ρ Ψ) : Eff P W l o ρ Ψ := fun w hs => h w (hs.perm hp)
theorem Eff.mono {P : Program} {W : World} {l : List Ent} {o : Oper} {ρ : Operand → Value} {Ψ Ψ' : Value → List Ent → Prop} (h : Eff P W l o ρ Ψ) (hp : ∀ v l', Ψ v l' → Ψ' v l') : Eff P W l o ρ Ψ' :=
  fun w hs => (h w hs).mono fun _ _ ⟨l', hs', hf⟩ => ⟨l', hs', hp _ _ hf⟩
section
variable {P : Program} {n : Nat} {W : World} {K : Kont} {f : Fr} {l l' : List Ent} {ops : Array Oper} {rest : List Oper}
theorem JL.perm (hp : l.Perm l') (h : JL P n W ops K rest f l') : JL P n W ops K rest f l := fun w hs => h w (hs.perm hp)
theorem JC.perm {c : Code} (hp : l.Perm l') (h : JC P n W c K f l') : JC P n W c K f l := fun w hs => h w (hs.perm hp)
theorem JC.sub {c : Code} (hp : l'.Sublist l) (h : JC P n W c K f l') : JC P n W c K f l := fun w hs => h w (hs.sub hp)
theorem RN.sub (hp : l'.Sublist l) (h : RN P n W K f l') : RN P n W K f l := fun w hs => h w (hs.sub hp)
theorem JL.sub (hp : l'.Sublist l) (h : JL P n W ops K rest f l') : JL P n W ops K rest f l := fun w hs => h w (hs.sub hp)
end
theorem Tr.perm {P : Program} {g : FuncId} {args : Array Value} {W : World} {l l' : List Ent} {Φ : Value → List Ent → Prop} (hp : l.Perm l') (h : Tr P g args W l' Φ) : Tr P g args W l Φ := fun w hs => h w (hs.perm hp)
theorem Tr.sub {P : Program} {g : FuncId} {args : Array Value} {W : World} {l l' : List Ent} {Φ : Value → List Ent → Prop} (hp : l'.Sublist l) (h : Tr P g args W l' Φ) : Tr P g args W l Φ := fun w hs => h w (hs.sub hp)
/-- The same after turning pre ++ (le ++ r) into le ++ (pre ++ r). -/
theorem JD.perm {P : Program} {n : Nat} {W : World} {K : Kont} {f : Fr} {l l' : List Ent} {ops : Array Oper} {T : Tq} {fuel : Nat} {listed : Array Bool} (hp : l.Perm l') (h : JD P n W ops K T fuel listed f l') : JD P n W ops K T fuel listed f l := fun w hs ht => h w (hs.perm hp) ht
theorem JD.sub {P : Program} {n : Nat} {W : World} {K : Kont} {f : Fr} {l l' : List Ent} {ops : Array Oper} {T : Tq} {fuel : Nat} {listed : Array Bool} (hp : l'.Sublist l) (h : JD P n W ops K T fuel listed f l') : JD P n W ops K T fuel listed f l := fun w hs ht => h w (hs.sub hp) ht
theorem RN.perm {P : Program} {n : Nat} {W : World} {K : Kont} {f : Fr} {l l' : List Ent} (hp : l.Perm l') (h : RN P n W K f l') : RN P n W K f l := fun w hs => h w (hs.perm hp)
theorem JD.cast {P : Program} {n : Nat} {W : World} {K : Kont} {f : Fr} {l l' : List Ent} {ops : Array Oper} {T : Tq} {fuel : Nat} {listed : Array Bool} (hp : l = l') (h : JD P n W ops K T fuel listed f l') : JD P n W ops K T fuel listed f l := hp ▸ h
theorem RN.cast {P : Program} {n : Nat} {W : World} {K : Kont} {f : Fr} {l l' : List Ent} (hp : l = l') (h : RN P n W K f l') : RN P n W K f l := hp ▸ h
theorem JC.cast {P : Program} {n : Nat} {W : World} {K : Kont} {c : Code} {f : Fr} {l l' : List Ent} (hp : l = l') (h : JC P n W c K f l') : JC P n W c K f l := hp ▸ h
theorem JL.cast {P : Program} {n : Nat} {W : World} {ops : Array Oper} {rest : List Oper} {K : Kont} {f : Fr} {l l' : List Ent} (hp : l = l') (h : JL P n W ops K rest f l') : JL P n W ops K rest f l := hp ▸ h
theorem RT.sub {n : Nat} {W : World} {K : Kont} {f : Fr} {l l' : List Ent} (hp : l'.Sublist l) (h : RT n W K f l') : RT n W K f l := fun w hs => h w (hs.sub hp)
theorem perm_mid {α : Type} (pre le r : List α) : (pre ++ (le ++ r)).Perm (le ++ (pre ++ r)) := by
  rw [← List.append_assoc, ← List.append_assoc]
  exact List.perm_append_comm.append_right r

/-! ### Where a slice that is only read may lie -/
def Src (W : World) (r : List Ent) (A : Option Addr) (xs : List Value) : Prop :=
  xs = [] ∨ (∃ a, A = some a ∧ ∀ j u, xs[j]? = some u → W.cell? (a.add j) = some u) ∨
  ∃ g o T ys p, A = some ⟨g, o, none⟩ ∧ (g, p) ∈ r ∧ (p = isC T ys ∨ ∃ tot, p = isR T tot ys) ∧ ∀ j u, xs[j]? = some u → ys[o + j]? = some u
theorem Src.nil (W : World) (r : List Ent) (A : Option Addr) : Src W r A [] := .inl rfl
theorem Src.mono {W : World} {r r' : List Ent} {A : Option Addr} {xs : List Value} (h : Src W r A xs) (hr : ∀ e ∈ r, e ∈ r') : Src W r' A xs := by
  rcases h with h | h | ⟨g, o, T, ys, p, h1, h2, h3⟩
  · exact .inl h
  · exact .inr (.inl h)
  · exact .inr (.inr ⟨g, o, T, ys, p, h1, hr _ h2, h3⟩)
theorem Src.rd {W : World} {r l : List Ent} {A : Option Addr} {xs : List Value} (h : Src W r A xs) (hr : ∀ e ∈ r, e ∈ l) : Rd W l A xs := by
  rcases h with h | ⟨a, rfl, h⟩ | ⟨g, o, T, ys, p, rfl, h2, h3, h4⟩
  · exact .inl h
  · exact Rd.was h
  · obtain ⟨i, hi⟩ := List.mem_iff_getElem?.1 (hr _ h2)
    rcases h3 with rfl | ⟨tot, rfl⟩
    · exact Rd.cells i hi o h4
    · exact Rd.row i hi o h4
theorem Src.row {W : World} {r : List Ent} {T g tot : Nat} {ys : List Value} (h : (g, isR T tot ys) ∈ r) (o : Nat) {xs : List Value} (hx : ∀ j u, xs[j]? = some u → ys[o + j]? = some u) : Src W r (some ⟨g, o, none⟩) xs :=
  .inr (.inr ⟨g, o, T, ys, _, rfl, h, .inr ⟨tot, rfl⟩, hx⟩)
theorem Src.whole {W : World} {r : List Ent} {T g tot : Nat} {ys : List Value} (h : (g, isR T tot ys) ∈ r) : Src W r (some ⟨g, 0, none⟩) ys := Src.row h 0 (by simp)
theorem Src.cells {W : World} {r : List Ent} {T g : Nat} {ys : List Value} (h : (g, isC T ys) ∈ r) (o : Nat) {xs : List Value} (hx : ∀ j u, xs[j]? = some u → ys[o + j]? = some u) : Src W r (some ⟨g, o, none⟩) xs :=
  .inr (.inr ⟨g, o, T, ys, _, rfl, h, .inl rfl, hx⟩)
theorem Src.was {W : World} {r : List Ent} {a : Addr} {xs : List Value} (h : ∀ j u, xs[j]? = some u → W.cell? (a.add j) = some u) : Src W r (some a) xs := .inr (.inl ⟨a, rfl, h⟩)
theorem Own.len {e : TypeId} {sz n : Nat} {v : Value} {xs : List Value} {le : List Ent} (h : Own e sz v n xs le) : xs.length = n * sz := h.1
/-- A slice that owns its row, read. -/
theorem Own.src {W : World} {e : TypeId} {sz n : Nat} {v : Value} {xs : List Value} {le : List Ent} (h : Own e sz v n xs le) : ∃ A c, v = .slice A n c ∧ Src W le A xs ∧ n ≤ c := by
  rcases h.2 with ⟨rfl, rfl, rfl⟩ | ⟨g, cap, rfl, h1, _, rfl⟩
  · have : xs = [] := List.eq_nil_of_length_eq_zero (by simpa using h.1)
    exact ⟨none, 0, rfl, .inl this, Nat.le_refl _⟩
  · exact ⟨_, cap, rfl, Src.whole (List.mem_singleton.2 rfl), h1⟩
theorem Own.ne {e : TypeId} {sz n : Nat} {v : Value} {xs : List Value} {le : List Ent} (h : Own e sz v n xs le) (hn : v ≠ .slice none 0 0) : ∃ g cap, v = .slice (some ⟨g, 0, none⟩) n cap ∧ n ≤ cap ∧ cap ≤ maxLen ∧ le = [(g, isR e (cap * sz) xs)] := by
  rcases h.2 with ⟨rfl, _⟩ | h
  · exact absurd rfl hn
  · exact h
theorem isR_take {T tot : Nat} {xs ys : List Value} (h : ys = xs.take ys.length) {o : Obj} (ho : isR T tot xs o) : isR T tot ys o := by
  obtain ⟨cur, rfl, h1, h2⟩ := ho
  refine ⟨cur, rfl, h1, ?_⟩
  have hl : ys.length ≤ xs.length := by have := congrArg List.length h; simp at this; omega
  rw [h, ← h2, List.take_take, List.length_take]
  simp only [List.length_take, Array.length_toList]
  have := row_len h2
  congr 1
  omega
theorem SH.weaken1 {W w : World} {b : Nat} {p p' : Obj → Prop} {pre r : List Ent} (h : SH W (pre ++ ((b, p) :: r)) w) (hp : ∀ o, p o → p' o) : SH W (pre ++ ((b, p') :: r)) w := by
  refine ⟨h.below, ?_, fun e he => ?_⟩
  · have := h.nodup; simpa using this
  · rcases List.mem_append.1 he with he | he
    · exact h.ents e (List.mem_append_left _ he)
    · rcases List.mem_cons.1 he with rfl | he
      · obtain ⟨h1, o, h2, h3⟩ := h.ents (b, p) (List.mem_append_right _ (List.mem_cons_self ..))
        exact ⟨h1, o, h2, hp o h3⟩
      · exact h.ents e (List.mem_append_right _ (List.mem_cons_of_mem _ he))

section
variable {P : Program} {ρ : Operand → Value} {d : Option Tmp} {ty : TypeId} {pos : String} {af : Array Edge} {gd : Option (Nat × Bool)} {W : World} {l : List Ent} {Ψ : Value → List Ent → Prop}
/-- append onto a slice of the call's own that lies behind pre. -/
theorem e_appendP {t e : TypeId} {sz by_ n m c : Nat} {s x : Operand} {v : Value} {A : Option Addr} {xs news : List Value} (pre le : List Ent) {r : List Ent} [ht : SliceT P t e] [hi : RowT P e sz by_] (hpl : l = pre ++ (le ++ r))
    (hx : ρ s = v) (hv : Own e sz v n xs le) (hy : ρ x = .slice A m c) (hl : news.length = m * sz) (hrd : Src W l A news) (h1 : ∀ u ∈ news, u.oneCell' = true) (hb : (n + m) * by_ ≤ 140737488355328) (h63 : n + m ≤ maxLen)
    (h : ∀ v' le', Own e sz v' (n + m) (xs ++ news) le' → (v' = .slice none 0 0 → v = .slice none 0 0 ∧ m = 0) → Ψ v' (pre ++ (le' ++ r))) : Eff P W l ⟨d, .call { callee := .builtin .append, args := #[s, x], argTypes := #[t, t] }, ty, pos, af, gd⟩ ρ Ψ := by
  subst hpl
  refine Eff.perm (perm_mid pre le r) ?_
  have := e_append (P := P) (ρ := ρ) (d := d) (ty := ty) (pos := pos) (af := af) (gd := gd) (W := W) (Ψ := fun v l' => ∃ le', l' = le' ++ (pre ++ r) ∧ Ψ v (pre ++ (le' ++ r))) (s := s) (x := x) (t := t) (r := pre ++ r) hx hv hy hl
    (hrd.rd fun e he => ((perm_mid pre le r).mem_iff).1 he) h1 hb h63 fun v' le' ho hn => ⟨le', rfl, h v' le' ho hn⟩
  intro w hs
  refine (this w hs).mono fun v w' ⟨l', hs', le', e1, e2⟩ => ⟨_, ?_, e2⟩
  subst e1
  exact hs'.perm (perm_mid pre le' r).symm
/-- append within the capacity, the source anywhere (in the same row, too). -/
theorem e_appendRoom {t e : TypeId} {sz by_ g k cap m c tot : Nat} {s x : Operand} {A : Option Addr} {xs news : List Value} (i : Nat) (he : l[i]? = some (g, isR e tot xs)) [ht : SliceT P t e] [hi : RowT P e sz by_]
    (hx : ρ s = .slice (some ⟨g, 0, none⟩) k cap) (hy : ρ x = .slice A m c) (hl : news.length = m * sz) (hrd : Src W l A news) (h1 : ∀ u ∈ news, u.oneCell' = true) (hroom : k + m ≤ cap) (hfit : (k + m) * sz ≤ tot) (hk : k * sz ≤ xs.length)
    (h : Ψ (.slice (some ⟨g, 0, none⟩) (k + m) cap) (l.set i (g, isR e tot (xs.take (k * sz) ++ news ++ xs.drop ((k + m) * sz))))) : Eff P W l ⟨d, .call { callee := .builtin .append, args := #[s, x], argTypes := #[t, t] }, ty, pos, af, gd⟩ ρ Ψ := by
  intro w hw
  obtain ⟨io, z, hi1, hi2, hi3, hi4, hi5, hi6⟩ := rowB_spec hi.h
  obtain ⟨_, ob, hb, cur, rfl, htot, hxs⟩ := hw.at_ he
  have hrl := row_len hxs
  have hfit2 := hfit
  rw [Nat.add_mul] at hfit2
  have hnl : k * sz + news.length ≤ cur.size := by rw [hl]; omega
  have hst : (storeCells ⟨g, k * sz, none⟩ news).run P w = .ok () (setB w g (.cells (splice cur (k * sz) news) e (0, 0))) := by
    have := run_storeCells P news (k * sz) 0 cur w hb (.inl rfl) (by omega) h1
    simpa using this
  have hfirst : (Builtin.firstCells sz m (.slice A m c)).run P w = .ok news.toArray w := by
    rcases hrd with rfl | hrd
    · have hm : m * sz = 0 := by simpa using hl.symm
      cases A with
      | none => simp [Builtin.firstCells]
      | some a => simp [Builtin.firstCells, hm, loadCells, loadCellsFrom]
    · have hr2 : Rd W l A news := Src.rd (.inr hrd) fun _ h => h
      rcases hr2 with h0 | ⟨a, rfl, hc⟩
      · subst h0
        have hm : m * sz = 0 := by simpa using hl.symm
        cases A with
        | none => simp [Builtin.firstCells]
        | some a => simp [Builtin.firstCells, hm, loadCells, loadCellsFrom]
      · simp only [Builtin.firstCells]
        rw [← hl]
        exact run_loadCells_list (P := P) w a news (hc w hw)
  have hr : (Builtin.append_ #[t, t] ty #[.slice (some ⟨g, 0, none⟩) k cap, .slice A m c]).run P w = .ok (.slice (some ⟨g, 0, none⟩) (k + m) cap) (setB w g (.cells (splice cur (k * sz) news) e (0, 0))) := by
    simp [Builtin.append_, run_underlying ht.h, sizeOf, typeInfo, hi1, hi3, Builtin.lenOf, hroom, hfirst, addr_add, hst]
  unfold OpW
  simp only [execOp, resolve, Sem.run_bind, Sem.run_pure, Result.andThen_ok, invoke, builtin, List.map_toArray, List.map_cons, List.map_nil, hx, hy, hr]
  refine ⟨_, hw.set_ he (setB_ok w hb _) ⟨_, rfl, by rw [splice_size]; exact htot, ?_⟩, h⟩
  apply List.ext_getElem?
  intro j
  rw [List.getElem?_take, Array.getElem?_toList, splice_get _ _ _ _ hnl]
  simp only [List.length_append, List.length_take, List.length_drop]
  have hmin : min (k * sz) xs.length = k * sz := by omega
  rw [hmin, hl]
  have ekm : (k + m) * sz = k * sz + m * sz := Nat.add_mul ..
  by_cases hj : j < k * sz + m * sz + (xs.length - (k + m) * sz)
  · rw [if_pos hj]
    by_cases h2 : k * sz ≤ j ∧ j < k * sz + m * sz
    · rw [if_pos h2, List.getElem?_append_left (by simp only [List.length_append, List.length_take, hl]; omega), List.getElem?_append_right (by simp only [List.length_take]; omega)]
      congr 1; simp only [List.length_take]; omega
    · rw [if_neg h2]
      have hjx : j < xs.length := by omega
      have hcj : cur[j]? = xs[j]? := by rw [row_get hxs (List.getElem?_eq_getElem hjx), List.getElem?_eq_getElem hjx]
      rw [hcj]
      by_cases h3 : j < k * sz
      · rw [List.getElem?_append_left (by simp only [List.length_append, List.length_take, hl]; omega), List.getElem?_append_left (by simp only [List.length_take]; omega), List.getElem?_take, if_pos h3]
      · rw [List.getElem?_append_right (by simp only [List.length_append, List.length_take, hl]; omega), List.getElem?_drop]
        congr 1; simp only [List.length_append, List.length_take, hl]; omega
  · rw [if_neg hj, List.getElem?_eq_none (by simp only [List.length_append, List.length_take, List.length_drop, hl]; omega)]
/-- clear of a slice. -/
theorem e_clear {t e : TypeId} {sz by_ g o m c tot : Nat} {z : List Value} {x : Operand} {xs : List Value} (i : Nat) (he : l[i]? = some (g, isR e tot xs)) [ht : SliceT P t e] [hi : RowT P e sz by_] [hz : Zr P e z]
    (hx : ρ x = .slice (some ⟨g, o, none⟩) m c) (hm : m = 1) (hfit : o + sz ≤ xs.length) (hz1 : ∀ u ∈ z, u.oneCell' = true)
    (h : Ψ (.tuple #[]) (l.set i (g, isR e tot (xs.take o ++ z ++ xs.drop (o + sz))))) : Eff P W l ⟨d, .call { callee := .builtin .clear, args := #[x], argTypes := #[t] }, ty, pos, af, gd⟩ ρ Ψ := by
  intro w hw
  subst hm
  obtain ⟨io, zv', hi1, hi2, hi3, hi4, hi5, hi6⟩ := rowB_spec hi.h
  obtain ⟨zv, hzv, hrz⟩ := run_zero hz.h
  obtain ⟨_, ob, hb, cur, rfl, htot, hxs⟩ := hw.at_ he
  have hrl := row_len hxs
  have hzs : z.length = sz := by
    have h1 := hz.h
    unfold zeroB at h1
    rw [hi1] at h1
    simp only [Option.bind_some, hi2, Option.map_some] at h1
    have := congrArg Array.size (Option.some.inj h1)
    rw [hi5] at this
    simpa using this.symm
  have hzc : Builtin.zeroCells zv.cells 1 = z.toArray := by
    rw [hzv]
    unfold Builtin.zeroCells
    apply Array.ext
    · simp
    · intro j h1 h2
      simp only [Array.getElem_map, Array.getElem_range]
      have hj : j < z.length := by simpa using h2
      have : j % z.toArray.size = j := Nat.mod_eq_of_lt (by simpa using hj)
      rw [this]
      simp [hj]
  have hst := run_storeCells P z o 0 cur w hb (.inl rfl) (by omega) hz1
  simp only [Nat.add_zero] at hst
  have hr : (Builtin.clear_ #[t] ty #[.slice (some ⟨g, o, none⟩) 1 c]).run P w = .ok (.tuple #[]) (setB w g (.cells (splice cur o z) e (0, 0))) := by
    simp [Builtin.clear_, run_underlying ht.h, hrz w, hzc, hst]
  unfold OpW
  simp only [execOp, resolve, Sem.run_bind, Sem.run_pure, Result.andThen_ok, invoke, builtin, List.map_toArray, List.map_cons, List.map_nil, hx, hr]
  refine ⟨_, hw.set_ he (setB_ok w hb _) ⟨_, rfl, by rw [splice_size]; exact htot, ?_⟩, h⟩
  apply List.ext_getElem?
  intro j
  rw [List.getElem?_take, Array.getElem?_toList, splice_get _ _ _ _ (by omega)]
  have hL : (xs.take o ++ z ++ xs.drop (o + sz)).length = xs.length := by simp; omega
  rw [hL]
  by_cases hj : j < xs.length
  · rw [if_pos hj]
    have hcj : cur[j]? = xs[j]? := by rw [row_get hxs (List.getElem?_eq_getElem hj), List.getElem?_eq_getElem hj]
    by_cases h2 : o ≤ j ∧ j < o + z.length
    · rw [if_pos h2, List.getElem?_append_left (by simp; omega), List.getElem?_append_right (by simp; omega)]
      congr 1; simp; omega
    · rw [if_neg h2, hcj]
      by_cases h3 : j < o
      · rw [List.getElem?_append_left (by simp; omega), List.getElem?_append_left (by simp; omega), List.getElem?_take, if_pos h3]
      · rw [List.getElem?_append_right (by simp; omega), List.getElem?_drop]
        congr 1; simp; omega
  · rw [if_neg hj, List.getElem?_eq_none (by rw [hL]; omega)]
/-- s[:hi] -/
theorem y_sliceTo {t e : TypeId} {x hi : Operand} {b o len cap sz h : Nat} {k : IntKind} [ht : SliceT P t e] [hs : Sz P e sz] (hx : ρ x = .slice (some ⟨b, o, none⟩) len cap) (hhi : ρ hi = .int k (h : Int)) (hhc : h ≤ cap) :
    Yld P ⟨d, .slice t x none (some hi) none, ty, pos, af, gd⟩ ρ (.slice (some ⟨b, o, none⟩) h cap) := by
  have := y_slice (P := P) (ρ := ρ) (d := d) (ty := ty) (pos := pos) (af := af) (gd := gd) (t := t) (lo := none) (hi := some hi) (h := h) hx rfl ⟨k, hhi⟩ (Nat.zero_le _) hhc
  simpa using this
/-- s[lo:hi], lo short of the capacity -/
theorem y_sliceIn {t e : TypeId} {x lo hi : Operand} {b o len cap sz l h : Nat} {k k' : IntKind} [ht : SliceT P t e] [hs : Sz P e sz] (hx : ρ x = .slice (some ⟨b, o, none⟩) len cap) (hlo : ρ lo = .int k' (l : Int)) (hhi : ρ hi = .int k (h : Int)) (hlh : l ≤ h) (hhc : h ≤ cap) (hl : l < cap) :
    Yld P ⟨d, .slice t x (some lo) (some hi) none, ty, pos, af, gd⟩ ρ (.slice (some ⟨b, o + l * sz, none⟩) (h - l) (cap - l)) := by
  have := y_slice (P := P) (ρ := ρ) (d := d) (ty := ty) (pos := pos) (af := af) (gd := gd) (t := t) (lo := some lo) (hi := some hi) (h := h) (l := l) hx ⟨k', hlo⟩ ⟨k, hhi⟩ hlh hhc
  rwa [if_neg (by omega)] at this
/-- s[lo:] -/
theorem y_sliceFrom {t e : TypeId} {x lo : Operand} {b o len cap sz l : Nat} {k' : IntKind} [ht : SliceT P t e] [hs : Sz P e sz] (hx : ρ x = .slice (some ⟨b, o, none⟩) len cap) (hlo : ρ lo = .int k' (l : Int)) (hlh : l ≤ len) (hc : len ≤ cap) :
    Yld P ⟨d, .slice t x (some lo) none none, ty, pos, af, gd⟩ ρ (.slice (if cap = l then some ⟨b, o, none⟩ else some ⟨b, o + l * sz, none⟩) (len - l) (cap - l)) :=
  y_slice (P := P) (ρ := ρ) (d := d) (ty := ty) (pos := pos) (af := af) (gd := gd) (t := t) (lo := some lo) (hi := none) (h := len) (l := l) hx ⟨k', hlo⟩ rfl hlh hc
/-- s[lo:hi:mx] -/
theorem y_slice3 {t e : TypeId} {x lo hi mx : Operand} {b o len cap sz lw h m : Nat} {k1 k2 k3 : IntKind} [ht : SliceT P t e] [hs : Sz P e sz] (hx : ρ x = .slice (some ⟨b, o, none⟩) len cap)
    (hlo : ρ lo = .int k1 (lw : Int)) (hhi : ρ hi = .int k2 (h : Int)) (hmx : ρ mx = .int k3 (m : Int)) (hlh : lw ≤ h) (hhm : h ≤ m) (hmc : m ≤ cap) :
    Yld P ⟨d, .slice t x (some lo) (some hi) (some mx), ty, pos, af, gd⟩ ρ (.slice (if m = lw then some ⟨b, o, none⟩ else some ⟨b, o + lw * sz, none⟩) (h - lw) (m - lw)) := fun w => by
  have e1 : (Instr.sliceBounds true len cap (some (ρ lo)) (some (ρ hi)) (some (ρ mx))).run P w = .ok (lw, h, m) w := by
    simp [Instr.sliceBounds, Instr.sliceBound, hlo, hhi, hmx, asIntOf, hlh, hhm, hmc]
  have e2 : (Instr.sliceAt t (.slice (some ⟨b, o, none⟩) len cap) (some (ρ lo)) (some (ρ hi)) (some (ρ mx))).run P w = .ok (.slice (if m = lw then some ⟨b, o, none⟩ else some ⟨b, o + lw * sz, none⟩) (h - lw) (m - lw)) w := by
    simp only [Instr.sliceAt, Sem.run_bind, run_underlying ht.h, Result.andThen_ok, Instr.slice, e1, run_sizeOf hs.h]
    simp [addr_add]
  simp [execOp, hx, e2]
end
/-! ### Results that lie in a variable -/
section
variable {P : Program} {fn : Func} {W : World} {Φ : Value → List Ent → Prop} {n : Nat} {f : Fr} {l : List Ent}
theorem fin_ret_sub {v : Value} (hr : ∀ w, SH W l w → (results fn (act n f).tmps).run P w = .ok v w) {l' : List Ent} (hsub : l'.Sublist l) (h : Φ v l') :
    ∀ w, SH W l w → bodyPost P fn (fun e w' => ∃ v l', e = .returned v ∧ SH W l' w' ∧ Φ v l') .ret (act n f) w := fun w hs => ⟨rfl, v, hr w hs, v, l', rfl, hs.sub hsub, h⟩
theorem res_cell {P : Program} {fn : Func} {t : Tmp} {T : Nat} {w : World} {tmps : Array Value} {a : Addr} {x : Value} (hr : fn.results = #[.cell t T]) (hp : tmps.getD t undef = .pointer (some a)) (h1 : (loadVar T a).run P w = .ok x w) :
    (results fn tmps).run P w = .ok x w := by
  rw [Array.getD_eq_getD_getElem?] at hp
  simp [results, hr, hp, asAddr, h1]
theorem res_cell2 {P : Program} {fn : Func} {t u : Tmp} {T : Nat} {w : World} {tmps : Array Value} {a : Addr} {x v : Value} (hr : fn.results = #[.cell t T, .tmp u]) (hp : tmps.getD t undef = .pointer (some a)) (hv : tmps.getD u undef = v) (h1 : (loadVar T a).run P w = .ok x w) :
    (results fn tmps).run P w = .ok (.tuple #[x, v]) w := by
  rw [Array.getD_eq_getD_getElem?] at hp hv
  simp [results, hr, hp, hv, asAddr, h1]
theorem ret_cell {t : Tmp} {T T' b sz : Nat} {cs : List Value} (hr : fn.results = #[.cell t T]) {K : Kont} (hK : K.bottom = (Fin P fn W Φ).bottom) [ha : Agg P T true] [hs : Sz P T sz] (i : Nat) (he : l[i]? = some (b, isC T' cs))
    (hp : ev n f (.tmp t) = .pointer (some ⟨b, 0, none⟩)) (hl : cs.length = sz) {l' : List Ent} (hsub : l'.Sublist l) (h : Φ (.agg cs.toArray) l') : RT n W K f l := by
  intro w hw
  rw [hK]
  refine fin_ret_sub (fun w hw => ?_) hsub h w hw
  obtain ⟨_, ob, hb, fz, rfl, _⟩ := hw.at_ he
  have h1 := run_loadVar_agg P hb ha.h hs.h (o := 0) (by simp only [List.size_toArray]; omega)
  have e1 : cs.toArray.extract 0 (0 + sz) = cs.toArray := by
    rw [← hl]; simp
  rw [e1] at h1
  have hp' := hp
  rw [← act_getD] at hp'
  exact res_cell hr hp' h1
theorem ret_cell2 {t u : Tmp} {T T' b sz : Nat} {cs : List Value} {v : Value} (hr : fn.results = #[.cell t T, .tmp u]) {K : Kont} (hK : K.bottom = (Fin P fn W Φ).bottom) [ha : Agg P T true] [hs : Sz P T sz] (i : Nat) (he : l[i]? = some (b, isC T' cs))
    (hp : ev n f (.tmp t) = .pointer (some ⟨b, 0, none⟩)) (hl : cs.length = sz) (hv : ev n f (.tmp u) = v) {l' : List Ent} (hsub : l'.Sublist l) (h : Φ (.tuple #[.agg cs.toArray, v]) l') : RT n W K f l := by
  intro w hw
  rw [hK]
  refine fin_ret_sub (fun w hw => ?_) hsub h w hw
  obtain ⟨_, ob, hb, fz, rfl, _⟩ := hw.at_ he
  have h1 := run_loadVar_agg P hb ha.h hs.h (o := 0) (by simp only [List.size_toArray]; omega)
  have e1 : cs.toArray.extract 0 (0 + sz) = cs.toArray := by
    rw [← hl]; simp
  rw [e1] at h1
  have hp' := hp
  rw [← act_getD] at hp'
  have hv' := hv
  rw [← act_getD] at hv'
  exact res_cell2 hr hp' hv' h1
end
/-! ### What an invariant knows of the frame -/
def FrOk (f : Fr) : List (Nat × Value) → Prop
  | [] => True
  | x :: hs => f x.1 = x.2 ∧ FrOk f hs
def puts (f : Fr) : List (Nat × Value) → Fr
  | [] => f
  | x :: hs => put (puts f hs) (some x.1) x.2
theorem put_self (f : Fr) (i : Nat) : put f (some i) (f i) = f := by
  funext j
  show (bif Nat.beq j i then f i else f j) = f j
  cases h : Nat.beq j i with
  | true => rw [Nat.eq_of_beq_eq_true h]; rfl
  | false => rfl
theorem puts_self (f : Fr) : ∀ hs : List (Nat × Value), FrOk f hs → puts f hs = f
  | [], _ => rfl
  | x :: hs, h => by
    rw [puts, puts_self f hs h.2, ← h.1, put_self]
theorem JC.frame {P : Program} {n : Nat} {W : World} {K : Kont} {c : Code} {f : Fr} {l : List Ent} (hs : List (Nat × Value)) (h : FrOk f hs) (hJ : ∀ f', JC P n W c K (puts f' hs) l) : JC P n W c K f l := by
  rw [← puts_self f hs h]
  exact hJ f
/-! ### Less of an entry -/
section
variable {P : Program} {n : Nat} {W : World} {K : Kont} {f : Fr} {l pre r : List Ent} {ops : Array Oper} {T : Tq} {fuel : Nat} {listed : Array Bool} {b : Nat} {p p' : Obj → Prop}
theorem JC.weak {c : Code} (pre : List Ent) (hl : l = pre ++ ((b, p) :: r)) (hp : ∀ o, p o → p' o) (h : JC P n W c K f (pre ++ ((b, p') :: r))) : JC P n W c K f l := fun w hs => h w ((hl ▸ hs).weaken1 hp)
theorem RN.weak (pre : List Ent) (hl : l = pre ++ ((b, p) :: r)) (hp : ∀ o, p o → p' o) (h : RN P n W K f (pre ++ ((b, p') :: r))) : RN P n W K f l := fun w hs => h w ((hl ▸ hs).weaken1 hp)
theorem JL.weak {rest : List Oper} (pre : List Ent) (hl : l = pre ++ ((b, p) :: r)) (hp : ∀ o, p o → p' o) (h : JL P n W ops K rest f (pre ++ ((b, p') :: r))) : JL P n W ops K rest f l := fun w hs => h w ((hl ▸ hs).weaken1 hp)
end
/-! ### Bytes -/
def bv (b : UInt8) : Value := .int .u8 b.toNat
theorem bv_one (bs : List UInt8) : ∀ u ∈ bs.map bv, u.oneCell' = true := fun u hu => by
  obtain ⟨b, _, rfl⟩ := List.mem_map.1 hu
  rfl
end Go.Lg
