import Derived.Test.YtplblpakbkgfeaaLgA
set_option linter.unusedVariables false
set_option linter.unusedSimpArgs false
namespace Go.Lg
open Go.RowKit

/-! ### A region that draws its order: what only reads is taken first; what was read must stand until those that wait for it have come -/
section
variable {P : Program} {ops : Array Oper} {Q : Exit → Act → World → Prop} {md : Region.Mode}
abbrev Td := List (List Nat × (World → Prop))
def Tk (T : Td) (listed : Array Bool) (w : World) : Prop := ∀ x ∈ T, (∀ j ∈ x.1, listed.getD j true = false) → x.2 w
def wpAnyT (P : Program) (md : Region.Mode) (ops : Array Oper) (Q : Exit → Act → World → Prop) (T : Td) : Nat → Array Bool → Act → World → Prop
  | 0, listed, a, w => Region.ready md ops listed = [] ∧ Q .normal a w
  | fuel + 1, listed, a, w =>
    (Region.ready md ops listed = [] → Q .normal a w) ∧
    ∀ i ∈ Region.ready md ops listed, wpOp P ops Q i (fun a' w' => Tk T (listed.setIfInBounds i true) w' ∧ wpAnyT P md ops Q T fuel (listed.setIfInBounds i true) a' w') a w
theorem wpAny_of_T {T : Td} : ∀ (fuel : Nat) (listed : Array Bool) (a : Act) (w : World), wpAnyT P md ops Q T fuel listed a w → wpAny P md ops Q fuel listed a w
  | 0, _, _, _, h => h
  | fuel + 1, _, _, _, h => ⟨h.1, fun i hi => wpOp_mono (fun a' w' h' => wpAny_of_T fuel _ a' w' h'.2) (h.2 i hi)⟩
theorem wpAnyT_sub {T T' : Td} (hT : ∀ x ∈ T', x ∈ T ∨ ∀ w, x.2 w) : ∀ (fuel : Nat) (listed : Array Bool) (a : Act) (w : World), wpAnyT P md ops Q T fuel listed a w → wpAnyT P md ops Q T' fuel listed a w
  | 0, _, _, _, h => h
  | fuel + 1, _, _, _, h => ⟨h.1, fun i hi => wpOp_mono (fun a' w' h' => ⟨fun x hx hl => (hT x hx).elim (fun hx => h'.1 x hx hl) (fun hx => hx w'), wpAnyT_sub hT fuel _ a' w' h'.2⟩) (h.2 i hi)⟩
theorem getD_set_self {listed : Array Bool} {i : Nat} (h : listed.getD i true = false) : (listed.setIfInBounds i true).getD i true = true := by
  have hlt : i < listed.size := by
    rcases Nat.lt_or_ge i listed.size with h' | h'
    · exact h'
    · simp [Array.getElem?_eq_none h'] at h
  simp [hlt]
theorem getD_flip {listed : Array Bool} {i : Nat} (h : listed.getD i true = false) : listed.getD i false = false := by
  have hlt : i < listed.size := by
    rcases Nat.lt_or_ge i listed.size with h' | h'
    · exact h'
    · simp [Array.getElem?_eq_none h'] at h
  simpa [hlt] using h
theorem unlisted_of_set {listed : Array Bool} {i k : Nat} (h : (listed.setIfInBounds i true).getD k true = false) : listed.getD k true = false := by
  by_cases hik : i = k
  · subst hik
    rcases Nat.lt_or_ge i listed.size with h' | h'
    · simp [h'] at h
    · simp [Array.getElem?_eq_none h'] at h
  · rwa [getD_set_ne true hik] at h
theorem getD_set_ii {listed : Array Bool} {i j k : Nat} (h : ¬ j = i) : ((listed.setIfInBounds i true).setIfInBounds j true).getD k true = ((listed.setIfInBounds j true).setIfInBounds i true).getD k true := by
  rw [Array.setIfInBounds_comm _ _ (fun e => h e.symm)]
theorem wpAnyT_first {i : Nat} {oi : Oper} {v : Value} (hi : ops[i]? = some oi) (hsel : ∀ (j : Nat) (o : Oper) cs b, ops[j]? = some o → o.op ≠ .select cs b)
    (hQ : ∀ c a w, Q (.panic c) (a.put oi.dst v) w → Q (.panic c) a w) {T : Td} {D C : List Nat} {S : World → Prop}
    (hD : ∀ x ∈ T, i ∉ x.1) (hiD : i ∉ D) (hDC : ∀ j ∈ D, j ∈ C) (hC : ∀ j ∈ C, ∃ oj, ops[j]? = some oj ∧ ∃ e ∈ oj.after, Region.binds md e = true ∧ (e.on = i ∨ e.on ∈ C)) :
    ∀ (fuel : Nat) (listed : Array Bool) (a : Act) (w : World),
      (∀ j oj, ops[j]? = some oj → j ≠ i → listed.getD j true = false → (∀ e ∈ oj.after, Region.binds md e = true → e.on ≠ i) → oi.apart ops oj = true) →
      (∀ j ∈ C, listed.getD j true = false) →
      i ∈ Region.ready md ops listed → YieldsIf P ops S oi v a → S w → Tk T listed w →
      wpAnyT P md ops Q ((D, S) :: T) fuel (listed.setIfInBounds i true) (a.put oi.dst v) w → wpAnyT P md ops Q T (fuel + 1) listed a w := by
  intro fuel
  have hown : ∀ (listed : Array Bool) (w : World), Tk T listed w → Tk T (listed.setIfInBounds i true) w := fun listed w hT x hx hl =>
    hT x hx fun j hj => unlisted_of_set (hl j hj)
  have hsub : ∀ x ∈ T, x ∈ (D, S) :: T ∨ ∀ w, x.2 w := fun x hx => .inl (List.mem_cons_of_mem _ hx)
  induction fuel with
  | zero =>
    intro listed a w _ _ hr hy hS hT H
    refine ⟨fun h => (by rw [h] at hr; cases hr), fun j hj => ?_⟩
    by_cases hji : j = i
    · subst hji; exact hy.wpOp hi hS ⟨hown _ _ hT, H⟩
    · have := ready_mono hj hji
      rw [H.1] at this
      cases this
  | succ fuel ih =>
    intro listed a w hfree hun hr hy hS hT H
    refine ⟨fun h => (by rw [h] at hr; cases hr), fun j hj => ?_⟩
    by_cases hji : j = i
    · subst hji; exact hy.wpOp hi hS ⟨hown _ _ hT, wpAnyT_sub hsub _ _ _ _ H⟩
    · have h1 := H.2 j (ready_mono hj hji)
      obtain ⟨hjun, oj, hoj, hall⟩ := mem_ready.1 hj
      have hiun := (mem_ready.1 hr).1
      have hnot : ∀ e ∈ oj.after, Region.binds md e = true → e.on ≠ i := fun e he hb heq => by
        have h1 := hall e he hb
        rw [heq, getD_flip hiun] at h1
        cases h1
      have hjC : j ∉ C := fun hjC => by
        obtain ⟨oj', hoj', e, he, hb, hor⟩ := hC j hjC
        rw [hoj] at hoj'
        obtain rfl := Option.some.inj hoj'
        have h1 := hall e he hb
        rcases hor with hor | hor
        · exact hnot e he hb hor
        · rw [getD_flip (hun _ hor)] at h1
          cases h1
      have h2 := wpOp_putIf hoj (hfree j oj hoj hji hjun hnot) (fun cs b => hsel i oi cs b hi) (fun cs b => hsel j oj cs b hoj) hQ hy h1
      have hfree' : ∀ k ok, ops[k]? = some ok → k ≠ i → (listed.setIfInBounds j true).getD k true = false →
          (∀ e ∈ ok.after, Region.binds md e = true → e.on ≠ i) → oi.apart ops ok = true := fun k ok hk hki hun hno =>
        hfree k ok hk hki (unlisted_of_set hun) hno
      have hun' : ∀ k ∈ C, (listed.setIfInBounds j true).getD k true = false := fun k hk => by
        rw [getD_set_ne true (fun (e : j = k) => hjC (by rw [e]; exact hk))]; exact hun k hk
      refine wpOp_mono (fun a' w' h3 => ?_) h2
      obtain ⟨hy', hTk, H'⟩ := h3
      have hT' : Tk T (listed.setIfInBounds j true) w' := fun x hx hl => hTk x (List.mem_cons_of_mem _ hx) fun k hk => by
        rw [getD_set_ii hji, getD_set_ne true (fun (e : i = k) => hD x hx (by rw [e]; exact hk))]
        exact hl k hk
      have hS' : S w' := hTk (D, S) (List.mem_cons_self ..) fun k hk => by
        rw [getD_set_ii hji, getD_set_ne true (fun (e : i = k) => hiD (by rw [e]; exact hk))]
        exact hun' k (hDC k hk)
      refine ⟨hT', ih (listed.setIfInBounds j true) a' w' hfree' hun' (ready_mono hr (Ne.symm hji)) hy' hS' hT' ?_⟩
      rw [Array.setIfInBounds_comm _ _ hji]
      exact H'
end

/-! ### The same over the list of blocks -/
abbrev Tq := List (List Nat × Option Ent)
def TS (W : World) (x : List Nat × Option Ent) : List Nat × (World → Prop) := (x.1, match x.2 with | none => Was W | some e => At e.1 e.2)
/-- What was read and is still waited for stands in l. -/
def TOk : Tq → Array Bool → List Ent → Prop
  | [], _, _ => True
  | x :: T, listed, l => (match x.2 with
      | none => True
      | some e => (bif x.1.all (fun j => !listed.getD j true) then e ∈ l else True)) ∧ TOk T listed l
theorem TOk.tk {W : World} : ∀ {T : Tq} {listed : Array Bool} {l : List Ent}, TOk T listed l → ∀ w, SH W l w → Tk (T.map (TS W)) listed w
  | [], _, _, _, _, _ => fun x hx => by simp at hx
  | x :: T, listed, l, h, w, hs => by
    intro y hy hl
    rcases List.mem_cons.1 hy with rfl | hy
    · obtain ⟨D, o⟩ := x
      cases o with
      | none => exact hs.below
      | some e =>
        have h1 := h.1
        simp only at h1
        have hall : D.all (fun j => !listed.getD j true) = true := by
          rw [List.all_eq_true]
          intro j hj
          have := hl j hj
          simp only [this, Bool.not_false]
        rw [hall] at h1
        exact (hs.ents e h1).2
    · exact TOk.tk h.2 w hs y hy hl
theorem TOk.nil {listed : Array Bool} {l : List Ent} : TOk [] listed l := trivial
theorem TOk.was {D : List Nat} {T : Tq} {listed : Array Bool} {l : List Ent} (h : TOk T listed l) : TOk ((D, none) :: T) listed l := ⟨trivial, h⟩
theorem TOk.past {D : List Nat} {o : Option Ent} {T : Tq} {listed : Array Bool} {l : List Ent} (hd : D.all (fun j => !listed.getD j true) = false) (h : TOk T listed l) : TOk ((D, o) :: T) listed l := by
  refine ⟨?_, h⟩
  cases o with
  | none => trivial
  | some e => simp only [hd]; trivial
theorem TOk.mem {D : List Nat} {e : Ent} {T : Tq} {listed : Array Bool} {l : List Ent} (he : e ∈ l) (h : TOk T listed l) : TOk ((D, some e) :: T) listed l := by
  refine ⟨?_, h⟩
  cases hd : D.all (fun j => !listed.getD j true) with
  | true => simp only [hd]; exact he
  | false => simp only [hd]; trivial
def effB : Op → Bool
  | .move _ | .assign _ | .pick .. | .build .. | .load .. | .nilCheck _ | .binOp .. | .unOp .. | .fieldAddr .. | .field .. | .indexAddr .. | .index .. | .lookup .. | .extract .. | .makeFunc .. | .slice .. => false
  | .call { callee := .builtin .len, .. } | .call { callee := .builtin .cap, .. } | .call { callee := .builtin .min, .. } | .call { callee := .builtin .max, .. } => false
  | _ => true
/-- Those that wait for i, near or far. -/
def desc (ops : Array Oper) (i : Nat) : List Nat :=
  (List.range ops.size).foldl (fun C j => match ops[j]? with
    | some oj => bif oj.after.any (fun e => Region.binds .any e && (Nat.beq e.on i || C.contains e.on)) then C ++ [j] else C
    | none => C) []
def effs (ops : Array Oper) (C : List Nat) : List Nat := C.filter fun j => match ops[j]? with | some o => effB o.op | none => true
def closedB (ops : Array Oper) (i : Nat) (C : List Nat) : Bool :=
  C.all fun j => match ops[j]? with
    | some oj => oj.after.any fun e => Region.binds .any e && (Nat.beq e.on i || C.contains e.on)
    | none => false
theorem closedB_spec {ops : Array Oper} {i : Nat} {C : List Nat} (h : closedB ops i C = true) : ∀ j ∈ C, ∃ oj, ops[j]? = some oj ∧ ∃ e ∈ oj.after, Region.binds .any e = true ∧ (e.on = i ∨ e.on ∈ C) := by
  intro j hj
  have h1 := List.all_eq_true.1 h j hj
  cases ho : ops[j]? with
  | none => simp [ho] at h1
  | some oj =>
    simp only [ho] at h1
    obtain ⟨e, he, hb⟩ := Array.any_eq_true'.1 h1
    simp only [Bool.and_eq_true, Bool.or_eq_true] at hb
    refine ⟨oj, rfl, e, he, hb.1, hb.2.imp (fun h => Nat.eq_of_beq_eq_true h) fun h => by simpa using h⟩

section
variable (P : Program) (n : Nat) (W : World)
def JD (ops : Array Oper) (K : Kont) (T : Tq) (fuel : Nat) (listed : Array Bool) (f : Fr) (l : List Ent) : Prop :=
  ∀ w, SH W l w → Tk (T.map (TS W)) listed w → wpAnyT P .any ops (fun e a w => e = .normal ∧ K.post P .normal a w) (T.map (TS W)) fuel listed (act n f) w
end
section
variable {P : Program} {n : Nat} {W : World} {K : Kont} {f : Fr} {l : List Ent} {ops : Array Oper} {T : Tq} {fuel : Nat} {listed : Array Bool}
theorem JC.drawn {id : Nat} (N : Nat) (hN : ops.size = N) (hm : P.follows .mixedOrders = true) (h : JD P n W ops K [] N (Array.replicate N false) f l) : JC P n W (.region id ops true) K f l := by
  subst hN
  intro w hw
  refine wp_mono (wp_region_any hm (wpAny_of_T _ _ _ _ (h w.drew hw.drew fun x hx => by simp at hx))) fun e a w' he => ?_
  obtain ⟨rfl, he⟩ := he
  exact he
theorem JD.done (hr : Region.ready .any ops listed = []) (h : RN P n W K f l) : JD P n W ops K T fuel listed f l := by
  intro w hw _
  cases fuel with
  | zero => exact ⟨hr, rfl, h w hw⟩
  | succ fuel => exact ⟨fun _ => ⟨rfl, h w hw⟩, by rw [hr]; simp⟩
/-- The side conditions of taking number i first, as Bools. -/
def chk (ops : Array Oper) (T : Tq) (listed : Array Bool) (i : Nat) : Bool :=
  Region.noSelect ops && Region.free .any ops listed i && (Region.ready .any ops listed).contains i && T.all fun x => !x.1.contains i
def chkR (ops : Array Oper) (listed : Array Bool) (i : Nat) (C : List Nat) : Bool :=
  closedB ops i C && C.all (fun j => !listed.getD j true) && !(effs ops C).contains i
theorem JD.read_ {i : Nat} {oi : Oper} {v : Value} (S : Option Ent) (C : List Nat) (hi : ops[i]? = some oi) (hc : chk ops T listed i = true) (hcr : chkR ops listed i C = true)
    (hy : (wantF ops n f oi.guard = true ∧ YldIf P (TS W ([], S)).2 oi (ev n f) v) ∨ (wantF ops n f oi.guard = false ∧ v = undef)) (hS : ∀ w, SH W l w → (TS W ([], S)).2 w)
    (h : JD P n W ops K ((effs ops C, S) :: T) fuel (listed.setIfInBounds i true) (put f oi.dst v) l) : JD P n W ops K T (fuel + 1) listed f l := by
  intro w hw hT
  simp only [chk, Bool.and_eq_true] at hc
  obtain ⟨⟨⟨c1, c2⟩, c3⟩, c4⟩ := hc
  simp only [chkR, Bool.and_eq_true] at hcr
  obtain ⟨⟨r1, r2⟩, r3⟩ := hcr
  have hDm : ∀ x ∈ T.map (TS W), i ∉ x.1 := fun x hx => by
    obtain ⟨y, hy, rfl⟩ := List.mem_map.1 hx
    have := List.all_eq_true.1 c4 y hy
    simpa [TS] using this
  refine wpAnyT_first hi (Region.noSelect_spec c1) (v := v) (fun _ _ _ hq => nomatch hq.1) (S := (TS W ([], S)).2) (D := effs ops C) (C := C) hDm
    (by simpa using r3) (fun j hj => (List.mem_filter.1 hj).1) (closedB_spec r1) fuel listed _ w (Region.free_spec hi c2)
    (fun j hj => by have := List.all_eq_true.1 r2 j hj; simpa using this) (by simpa using c3) ?_ (hS w hw) hT ?_
  · rcases hy with ⟨h1, h2⟩ | ⟨h1, h2⟩
    · exact .inl ⟨by rw [act_wanted]; exact h1, fun w hw => by rw [act_eval]; exact h2 w hw⟩
    · exact .inr ⟨by rw [act_wanted]; exact h1, h2⟩
  · rw [act_put]
    refine h w hw fun x hx hl => ?_
    rcases List.mem_cons.1 hx with rfl | hx
    · exact hS w hw
    · exact hT x hx fun j hj => unlisted_of_set (hl j hj)
theorem JD.pure_ {i : Nat} {oi : Oper} {v : Value} (hi : ops[i]? = some oi) (hc : chk ops T listed i = true)
    (hy : (wantF ops n f oi.guard = true ∧ Yld P oi (ev n f) v) ∨ (wantF ops n f oi.guard = false ∧ v = undef))
    (h : JD P n W ops K T fuel (listed.setIfInBounds i true) (put f oi.dst v) l) : JD P n W ops K T (fuel + 1) listed f l := by
  intro w hw hT
  simp only [chk, Bool.and_eq_true] at hc
  obtain ⟨⟨⟨c1, c2⟩, c3⟩, c4⟩ := hc
  have hDm : ∀ x ∈ T.map (TS W), i ∉ x.1 := fun x hx => by
    obtain ⟨y, hy, rfl⟩ := List.mem_map.1 hx
    have := List.all_eq_true.1 c4 y hy
    simpa [TS] using this
  refine wpAnyT_first hi (Region.noSelect_spec c1) (v := v) (fun _ _ _ hq => nomatch hq.1) (S := fun _ => True) (D := []) (C := []) hDm
    (by simp) (by simp) (by simp) fuel listed _ w (Region.free_spec hi c2) (by simp) (by simpa using c3) ?_ trivial hT ?_
  · rcases hy with ⟨h1, h2⟩ | ⟨h1, h2⟩
    · exact .inl ⟨by rw [act_wanted]; exact h1, fun w _ => by rw [act_eval]; exact h2 w⟩
    · exact .inr ⟨by rw [act_wanted]; exact h1, h2⟩
  · rw [act_put]
    refine wpAnyT_sub (fun x hx => ?_) _ _ _ _ (h w hw fun x hx hl => hT x hx fun j hj => unlisted_of_set (hl j hj))
    rcases List.mem_cons.1 hx with rfl | hx
    · exact .inr fun _ => trivial
    · exact .inl hx
section
variable {d : Option Tmp} {op : Op} {ty : TypeId} {pos : String} {af : Array Edge} {gd : Option (Nat × Bool)}
theorem JD.pure (i : Nat) {v : Value} (hi : ops[i]? = some ⟨d, op, ty, pos, af, gd⟩) (hc : chk ops T listed i = true) (hw : wantF ops n f gd = true) (hy : Yld P ⟨d, op, ty, pos, af, gd⟩ (ev n f) v)
    (h : JD P n W ops K T fuel (listed.setIfInBounds i true) (put f d v) l) : JD P n W ops K T (fuel + 1) listed f l := .pure_ hi hc (.inl ⟨hw, hy⟩) h
theorem JD.omit (i : Nat) (hi : ops[i]? = some ⟨d, op, ty, pos, af, gd⟩) (hc : chk ops T listed i = true) (hw : wantF ops n f gd = false)
    (h : JD P n W ops K T fuel (listed.setIfInBounds i true) (put f d undef) l) : JD P n W ops K T (fuel + 1) listed f l := .pure_ hi hc (.inr ⟨hw, rfl⟩) h
theorem JD.read (i : Nat) (idx : Nat) {v : Value} {b : Nat} {p : Obj → Prop} (he : l[idx]? = some (b, p)) (hi : ops[i]? = some ⟨d, op, ty, pos, af, gd⟩) (hc : chk ops T listed i = true) (hcr : chkR ops listed i (desc ops i) = true) (hw : wantF ops n f gd = true)
    (hy : YldIf P (At b p) ⟨d, op, ty, pos, af, gd⟩ (ev n f) v) (h : JD P n W ops K ((effs ops (desc ops i), some (b, p)) :: T) fuel (listed.setIfInBounds i true) (put f d v) l) : JD P n W ops K T (fuel + 1) listed f l :=
  .read_ (some (b, p)) (desc ops i) hi hc hcr (.inl ⟨hw, hy⟩) (fun _ hs => (hs.at_ he).2) h
theorem JD.was (i : Nat) {v : Value} (hi : ops[i]? = some ⟨d, op, ty, pos, af, gd⟩) (hc : chk ops T listed i = true) (hcr : chkR ops listed i [] = true) (hw : wantF ops n f gd = true)
    (hy : YldIf P (Was W) ⟨d, op, ty, pos, af, gd⟩ (ev n f) v) (h : JD P n W ops K (([], none) :: T) fuel (listed.setIfInBounds i true) (put f d v) l) : JD P n W ops K T (fuel + 1) listed f l :=
  .read_ none [] hi hc hcr (.inl ⟨hw, hy⟩) (fun _ hs => hs.below) h
end
theorem JD.step_ {j : Nat} {oj : Oper} (hj : ops[j]? = some oj) (hw : wantF ops n f oj.guard = true)
    (h : Eff P W l oj (ev n f) fun v l' => TOk T (listed.setIfInBounds j true) l' ∧ JD P n W ops K T fuel (listed.setIfInBounds j true) (put f oj.dst v) l') {w : World} (hs : SH W l w) :
    wpOp P ops (fun e a w => e = .normal ∧ K.post P .normal a w) j (fun a' w' => Tk (T.map (TS W)) (listed.setIfInBounds j true) w' ∧
      wpAnyT P .any ops (fun e a w => e = .normal ∧ K.post P .normal a w) (T.map (TS W)) fuel (listed.setIfInBounds j true) a' w') (act n f) w := by
  unfold wpOp
  simp only [hj]
  rw [act_wanted, if_pos hw]
  refine .inl (OpW.wp ?_)
  rw [act_eval]
  refine (h w hs).mono fun v w' ⟨l', hs', ht, hj⟩ => ?_
  rw [act_put]
  exact ⟨ht.tk w' hs', hj w' hs' (ht.tk w' hs')⟩
section
variable {d d' : Option Tmp} {op op' : Op} {ty ty' : TypeId} {pos pos' : String} {af af' : Array Edge} {gd gd' : Option (Nat × Bool)}
theorem JD.eff (j : Nat) (hr : Region.ready .any ops listed = [j]) (hj : ops[j]? = some ⟨d, op, ty, pos, af, gd⟩) (hw : wantF ops n f gd = true)
    (h : Eff P W l ⟨d, op, ty, pos, af, gd⟩ (ev n f) fun v l' => TOk T (listed.setIfInBounds j true) l' ∧ JD P n W ops K T fuel (listed.setIfInBounds j true) (put f d v) l') : JD P n W ops K T (fuel + 1) listed f l := by
  intro w hs _
  refine ⟨fun h0 => absurd (h0.symm.trans hr) (by simp), fun i hi => ?_⟩
  rw [hr] at hi
  obtain rfl : i = j := by simpa using hi
  exact JD.step_ hj hw h hs
theorem JD.eff2 (j k : Nat) (hr : Region.ready .any ops listed = [j, k]) (hj : ops[j]? = some ⟨d, op, ty, pos, af, gd⟩) (hw : wantF ops n f gd = true) (hk : ops[k]? = some ⟨d', op', ty', pos', af', gd'⟩) (hwk : wantF ops n f gd' = true)
    (h : Eff P W l ⟨d, op, ty, pos, af, gd⟩ (ev n f) fun v l' => TOk T (listed.setIfInBounds j true) l' ∧ JD P n W ops K T fuel (listed.setIfInBounds j true) (put f d v) l')
    (h' : Eff P W l ⟨d', op', ty', pos', af', gd'⟩ (ev n f) fun v l' => TOk T (listed.setIfInBounds k true) l' ∧ JD P n W ops K T fuel (listed.setIfInBounds k true) (put f d' v) l') : JD P n W ops K T (fuel + 1) listed f l := by
  intro w hs _
  refine ⟨fun h0 => absurd (h0.symm.trans hr) (by simp), fun i hi => ?_⟩
  rw [hr] at hi
  rcases List.mem_cons.1 hi with rfl | hi
  · exact JD.step_ hj hw h hs
  · obtain rfl : i = k := by simpa using hi
    exact JD.step_ hk hwk h' hs
end
end
end Go.Lg
