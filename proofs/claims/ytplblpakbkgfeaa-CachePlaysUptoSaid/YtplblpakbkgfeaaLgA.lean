import Derived.WalkKit
import Derived.WalkSpells
import Derived.OrdersHeld
set_option linter.unusedVariables false
set_option linter.unusedSimpArgs false
namespace Go.Lg
open Go.RowKit

/-! ### Frames as functions -/
abbrev Fr := Nat → Value
def upd (f : Fr) (d : Nat) (v : Value) : Fr := fun i => bif Nat.beq i d then v else f i
def put (f : Fr) : Option Tmp → Value → Fr
  | none, _ => f
  | some d, v => upd f d v
def ev (n : Nat) (f : Fr) : Operand → Value
  | .tmp t => bif Nat.blt t n then f t else undef
  | .const v => v
  | .global g => .pointer (some ⟨g, 0, none⟩)
  | .func g => .func (.func g) #[] #[]
def act (n : Nat) (f : Fr) : Act := ⟨Array.ofFn (n := n) fun i => f i, []⟩

theorem blt_true {a b : Nat} (h : a < b) : Nat.blt a b = true := by rw [Nat.blt_eq]; exact h
theorem blt_false {a b : Nat} (h : ¬ a < b) : Nat.blt a b = false := by
  cases hb : Nat.blt a b with
  | false => rfl
  | true => rw [Nat.blt_eq] at hb; exact absurd hb h
theorem nodup_idx {l : List Nat} (h : l.Nodup) {i j a : Nat} (hi : l[i]? = some a) (hj : l[j]? = some a) : i = j := by
  obtain ⟨h1, h2⟩ := List.getElem?_eq_some_iff.1 hi
  obtain ⟨h3, h4⟩ := List.getElem?_eq_some_iff.1 hj
  have hp := List.pairwise_iff_getElem.1 h
  rcases Nat.lt_trichotomy i j with hlt | he | hlt
  · exact absurd (h2.trans h4.symm) (hp i j h1 h3 hlt)
  · exact he
  · exact absurd (h4.trans h2.symm) (hp j i h3 h1 hlt)
theorem exists_least (p : Nat → Prop) : ∀ m, p m → ∃ m, p m ∧ ∀ k, p k → m ≤ k := by
  intro m
  induction m using Nat.strongRecOn with
  | _ m ih =>
    intro hm
    by_cases hx : ∃ k, k < m ∧ p k
    · obtain ⟨k, hk, hpk⟩ := hx
      exact ih k hk hpk
    · refine ⟨m, hm, fun k hk => ?_⟩
      rcases Nat.lt_or_ge k m with h | h
      · exact absurd ⟨k, h, hk⟩ hx
      · exact h
theorem upd_same (f : Fr) (d : Nat) (v : Value) : upd f d v d = v := by simp [upd]
theorem upd_other (f : Fr) {d i : Nat} (v : Value) (h : i ≠ d) : upd f d v i = f i := by
  have : Nat.beq i d = false := by
    cases hb : Nat.beq i d with
    | false => rfl
    | true => exact absurd (Nat.eq_of_beq_eq_true hb) h
  simp [upd, this]
theorem upd_self {f : Fr} {d : Nat} {v : Value} (h : f d = v) : f = upd f d v := by
  funext i
  by_cases hi : i = d
  · subst hi; rw [upd_same, h]
  · rw [upd_other f v hi]

theorem act_eval (n : Nat) (f : Fr) : (act n f).eval = ev n f := by
  funext x
  cases x with
  | tmp t =>
    simp only [Act.eval, act, ev]
    by_cases ht : t < n
    · simp [blt_true ht, Array.getD, ht]
    · simp [blt_false ht, Array.getD, ht]
  | const v => rfl
  | global g => rfl
  | func g => rfl
theorem act_put (n : Nat) (f : Fr) (d : Option Tmp) (v : Value) : (act n f).put d v = act n (put f d v) := by
  cases d with
  | none => rfl
  | some d =>
    simp only [Act.put, act, put]
    congr 1
    apply Array.ext_getElem?
    intro i
    by_cases hd : d = i
    · subst hd
      by_cases hi : d < n
      · rw [Array.getElem?_setIfInBounds_self_of_lt (by simpa using hi)]
        simp [hi, upd_same]
      · rw [Array.getElem?_eq_none (by simpa using hi), Array.getElem?_eq_none (by simpa using hi)]
    · rw [Array.getElem?_setIfInBounds_ne hd]
      by_cases hi : i < n
      · simp only [Array.getElem?_ofFn, hi, dif_pos]
        rw [upd_other f v (fun e => hd e.symm)]
      · rw [Array.getElem?_eq_none (by simpa using hi), Array.getElem?_eq_none (by simpa using hi)]
def yieldF (ops : Array Oper) (n : Nat) (f : Fr) (j : Nat) : Option Bool :=
  match (ops[j]?).bind (·.dst) with
  | some d => bif Nat.blt d n then (match f d with | .bool b => some b | _ => none) else none
  | none => none
theorem act_slot (n : Nat) (f : Fr) (d : Nat) : (act n f).tmps[d]? = bif Nat.blt d n then some (f d) else none := by
  by_cases ht : d < n
  · rw [blt_true ht]; simp [act, ht]
  · rw [blt_false ht]; simp [act, ht]
theorem act_yielded (ops : Array Oper) (n : Nat) (f : Fr) (j : Nat) : yielded ops (act n f).tmps j = yieldF ops n f j := by
  unfold yielded yieldF
  cases h : (ops[j]?).bind (·.dst) with
  | none => rfl
  | some d =>
    show (match (act n f).tmps[d]? with | some (.bool b) => some b | _ => none) = _
    rw [act_slot]
    by_cases ht : d < n
    · simp only [blt_true ht, cond_true]
      cases f d <;> rfl
    · simp only [blt_false ht, cond_false]
def wantF (ops : Array Oper) (n : Nat) (f : Fr) (g : Option (Nat × Bool)) : Bool :=
  match g with
  | none => true
  | some (j, want) => yieldF ops n f j == some want
theorem act_wanted (ops : Array Oper) (n : Nat) (f : Fr) (o : Oper) : Region.wanted o (yielded ops (act n f).tmps) = wantF ops n f o.guard := by
  unfold Region.wanted wantF
  cases o.guard with
  | none => rfl
  | some g => obtain ⟨j, want⟩ := g; simp only [act_yielded]

/-! ### The heap as a list of blocks -/
abbrev Ent := Nat × (Obj → Prop)
structure SH (W : World) (l : List Ent) (w : World) : Prop where
  below : Below W.heap.size W w
  nodup : (l.map (·.1)).Nodup
  ents : ∀ e ∈ l, W.heap.size ≤ e.1 ∧ ∃ o, w.heap[e.1]? = some o ∧ e.2 o

theorem SH.start (W : World) : SH W [] W := ⟨Below.refl _ _, List.nodup_nil, by simp⟩
theorem SH.at_ {W w : World} {l : List Ent} (h : SH W l w) {i : Nat} {e : Ent} (he : l[i]? = some e) : W.heap.size ≤ e.1 ∧ ∃ o, w.heap[e.1]? = some o ∧ e.2 o :=
  h.ents e (List.mem_of_getElem? he)
theorem SH.drew {W w : World} {l : List Ent} (h : SH W l w) : SH W l w.drew := ⟨h.below.drew, h.nodup, h.ents⟩
theorem SH.lt {W w : World} {l : List Ent} (h : SH W l w) {e : Ent} (he : e ∈ l) : e.1 < w.heap.size := by
  obtain ⟨_, o, ho, _⟩ := h.ents e he
  exact (Array.getElem?_eq_some_iff.1 ho).1
/-- A new block. -/
theorem SH.alloc {W w : World} {l : List Ent} (h : SH W l w) (o : Obj) {p : Obj → Prop} (hp : p o) : SH W ((w.heap.size, p) :: l) (w.alloc o) := by
  have hsz := h.below.size
  refine ⟨h.below.alloc hsz o, ?_, ?_⟩
  · simp only [List.map_cons, List.nodup_cons]
    refine ⟨fun hm => ?_, h.nodup⟩
    obtain ⟨e, he, heq⟩ := List.mem_map.1 hm
    have := h.lt he
    omega
  · intro e he
    rcases List.mem_cons.1 he with rfl | he
    · exact ⟨hsz, o, heap_alloc_new w o, hp⟩
    · obtain ⟨h1, o', h2, h3⟩ := h.ents e he
      exact ⟨h1, o', by rw [Below.heap_alloc w o e.1 (h.lt he)]; exact h2, h3⟩
/-- The world with another object in block b. -/
theorem SH.set_ {W w w' : World} {l : List Ent} (h : SH W l w) {i : Nat} {b : Nat} {p p' : Obj → Prop} (he : l[i]? = some (b, p)) {o' : Obj}
    (hw : w'.os = w.os ∧ w'.tape = w.tape ∧ w'.output = w.output ∧ w'.heap.size = w.heap.size ∧ w'.heap[b]? = some o' ∧ ∀ k, k ≠ b → w'.heap[k]? = w.heap[k]?) (hp : p' o') :
    SH W (l.set i (b, p')) w' := by
  obtain ⟨e1, e2, e3, e4, e5, e6⟩ := hw
  have hb := (h.at_ he).1
  have hi : i < l.length := (List.getElem?_eq_some_iff.1 he).1
  refine ⟨h.below.trans ⟨e1, e2, e3, by omega, fun k hk => e6 k (by omega)⟩, ?_, ?_⟩
  · have : (l.set i (b, p')).map (·.1) = l.map (·.1) := by
      rw [List.map_set]
      apply List.ext_getElem?
      intro j
      by_cases hj : i = j
      · subst hj
        rw [List.getElem?_set_self (by simpa using hi)]
        simp [he]
      · rw [List.getElem?_set_ne hj]
    rw [this]; exact h.nodup
  · intro e hm
    obtain ⟨j, hj⟩ := List.mem_iff_getElem?.1 hm
    by_cases hij : i = j
    · subst hij
      rw [List.getElem?_set_self hi] at hj
      obtain rfl := Option.some.inj hj
      exact ⟨hb, o', e5, hp⟩
    · rw [List.getElem?_set_ne hij] at hj
      obtain ⟨h1, o, h2, h3⟩ := h.at_ hj
      refine ⟨h1, o, ?_, h3⟩
      rw [e6 e.1 ?_]; exact h2
      intro heq
      have hnd := h.nodup
      have hj' : (l.map (·.1))[j]? = some b := by simp [hj, heq]
      have hi' : (l.map (·.1))[i]? = some b := by simp [he]
      exact hij (nodup_idx hnd hi' hj')
/-- Choosing entries: dropped, turned round. -/
def pick (l : List Ent) (idx : List Nat) : List Ent := idx.filterMap (l[·]?)
theorem SH.pick {W w : World} {l : List Ent} (h : SH W l w) (idx : List Nat) (hn : idx.Nodup) : SH W (pick l idx) w := by
  refine ⟨h.below, ?_, ?_⟩
  · unfold Lg.pick
    induction idx with
    | nil => simp
    | cons i r ih =>
      obtain ⟨hi, hr⟩ := List.nodup_cons.1 hn
      have ih := ih hr
      cases hl : l[i]? with
      | none => simpa [List.filterMap_cons, hl] using ih
      | some e =>
        simp only [List.filterMap_cons, hl, List.map_cons, List.nodup_cons]
        refine ⟨fun hm => ?_, ih⟩
        obtain ⟨e', he', heq⟩ := List.mem_map.1 hm
        obtain ⟨j, hj, hje⟩ := List.mem_filterMap.1 he'
        have hj' : (l.map (·.1))[j]? = some e.1 := by simp [hje, heq]
        have hi' : (l.map (·.1))[i]? = some e.1 := by simp [hl]
        have := nodup_idx h.nodup hi' hj'
        subst this
        exact hi hj
  · intro e he
    obtain ⟨j, _, hje⟩ := List.mem_filterMap.1 he
    exact h.ents e (List.mem_of_getElem? hje)
/-- The first k entries chosen among; what stands behind stays. -/
def shuf (l : List Ent) (idx : List Nat) (k : Nat) : List Ent := pick (l.take k) idx ++ l.drop k
theorem SH.append_left {W w : World} {a b : List Ent} (h : SH W (a ++ b) w) : SH W a w :=
  ⟨h.below, by have := h.nodup; rw [List.map_append] at this; exact (List.nodup_append.1 this).1, fun e he => h.ents e (List.mem_append_left _ he)⟩
theorem SH.append_right {W w : World} {a b : List Ent} (h : SH W (a ++ b) w) : SH W b w :=
  ⟨h.below, by have := h.nodup; rw [List.map_append] at this; exact (List.nodup_append.1 this).2.1, fun e he => h.ents e (List.mem_append_right _ he)⟩
theorem SH.shuf {W w : World} {l : List Ent} (h : SH W l w) (idx : List Nat) (k : Nat) (hn : idx.Nodup) : SH W (shuf l idx k) w := by
  have h' : SH W (l.take k ++ l.drop k) w := by rw [List.take_append_drop]; exact h
  have h1 := h'.append_left.pick idx hn
  refine ⟨h.below, ?_, fun e he => ?_⟩
  · unfold Lg.shuf
    rw [List.map_append, List.nodup_append]
    refine ⟨h1.nodup, h'.append_right.nodup, ?_⟩
    intro a ha b hb hab
    have hd := h'.nodup
    rw [List.map_append, List.nodup_append] at hd
    obtain ⟨e, he, rfl⟩ := List.mem_map.1 ha
    obtain ⟨j, _, hje⟩ := List.mem_filterMap.1 he
    exact hd.2.2 e.1 (List.mem_map.2 ⟨e, List.mem_of_getElem? hje, rfl⟩) b hb hab
  · rcases List.mem_append.1 he with he | he
    · exact h1.ents e he
    · exact h'.append_right.ents e he
/-- A weaker word on each block. -/
theorem SH.weaken {W w : World} {l l' : List Ent} (h : SH W l w) (hl : l.map (·.1) = l'.map (·.1)) (hp : ∀ (i b : Nat) (p p' : Obj → Prop), l[i]? = some (b, p) → l'[i]? = some (b, p') → ∀ o, p o → p' o) : SH W l' w := by
  refine ⟨h.below, hl ▸ h.nodup, fun e he => ?_⟩
  obtain ⟨j, hj⟩ := List.mem_iff_getElem?.1 he
  have h1 : (l'.map (·.1))[j]? = some e.1 := by simp [hj]
  rw [← hl] at h1
  simp only [List.getElem?_map, Option.map_eq_some_iff] at h1
  obtain ⟨e0, h2, h3⟩ := h1
  obtain ⟨k1, o, k2, k3⟩ := h.at_ h2
  obtain ⟨b0, p0⟩ := e0
  obtain ⟨b1, p1⟩ := e
  simp only at h3
  subst h3
  exact ⟨k1, o, k2, hp j b0 p0 p1 h2 hj o k3⟩

/-! ### One operation -/
def OpW (P : Program) (o : Oper) (ρ : Operand → Value) (w : World) (K : Value → World → Prop) : Prop :=
  match (execOp ρ o).run P w with
  | .ok (.value v) w' => K v w'
  | .ok .skip w' => K undef w'
  | .ok (.enter g args) w' => Calls P g args w' fun e w'' => ∃ v, e = .returned v ∧ K v w''
  | .ok (.row row args) w' => Rows P row args w' K
  | _ => False
theorem OpW.mono {P : Program} {o : Oper} {ρ : Operand → Value} {w : World} {K K' : Value → World → Prop} (h : OpW P o ρ w K) (hk : ∀ v w', K v w' → K' v w') : OpW P o ρ w K' := by
  unfold OpW at *
  split at h
  · exact hk _ _ h
  · exact hk _ _ h
  · exact Calls.mono h fun e w'' ⟨v, he, hv⟩ => ⟨v, he, hk _ _ hv⟩
  · exact Rows.mono h fun v w'' hv => hk _ _ hv
  · exact h.elim
theorem OpW.wp {P : Program} {o : Oper} {a : Act} {w : World} {next : Act → World → Prop} {Q : Exit → Act → World → Prop}
    (h : OpW P o a.eval w fun v w' => next (a.put o.dst v) w') : o.wp P a w next Q := by
  unfold OpW at h
  unfold Oper.wp
  revert h
  generalize (execOp a.eval o).run P w = r
  intro h
  cases r with
  | ok x w' =>
    cases x <;> simp only [Oper.upon] at h ⊢ <;> first
      | exact h
      | exact h.elim
      | (refine Calls.mono h fun e w'' he => ?_
         obtain ⟨v, rfl, hv⟩ := he
         exact hv)
  | halt x w' => exact h.elim

/-- The operation hands out v and leaves the world: in whatever world. -/
def Yld (P : Program) (o : Oper) (ρ : Operand → Value) (v : Value) : Prop := ∀ w, (execOp ρ o).run P w = .ok (.value v) w
/-- .. in every world that meets S. -/
def YldIf (P : Program) (S : World → Prop) (o : Oper) (ρ : Operand → Value) (v : Value) : Prop := ∀ w, S w → (execOp ρ o).run P w = .ok (.value v) w
/-- What the operation does to the list of blocks. -/
def Eff (P : Program) (W : World) (l : List Ent) (o : Oper) (ρ : Operand → Value) (Ψ : Value → List Ent → Prop) : Prop :=
  ∀ w, SH W l w → OpW P o ρ w fun v w' => ∃ l', SH W l' w' ∧ Ψ v l'
theorem Yld.opw {P : Program} {o : Oper} {ρ : Operand → Value} {v : Value} (h : Yld P o ρ v) {w : World} {K : Value → World → Prop} (hk : K v w) : OpW P o ρ w K := by
  unfold OpW; rw [h w]; exact hk
theorem YldIf.opw {P : Program} {S : World → Prop} {o : Oper} {ρ : Operand → Value} {v : Value} (h : YldIf P S o ρ v) {w : World} (hS : S w) {K : Value → World → Prop} (hk : K v w) : OpW P o ρ w K := by
  unfold OpW; rw [h w hS]; exact hk
theorem Yld.if_ {P : Program} {o : Oper} {ρ : Operand → Value} {v : Value} (h : Yld P o ρ v) (S : World → Prop) : YldIf P S o ρ v := fun w _ => h w
/-- Block b is as p says. -/
def At (b : Nat) (p : Obj → Prop) (w : World) : Prop := ∃ o, w.heap[b]? = some o ∧ p o
/-- What was there is as it was. -/
def Was (W : World) (w : World) : Prop := Below W.heap.size W w

/-! ### What follows: a stack -/
inductive Kont where
  | done (Q : Exit → Act → World → Prop)
  | seq (y : Code) (K : Kont)
  | blk (id : Nat) (K : Kont)
  | loop (I : Act → World → Prop) (K : Kont)
def Kont.post (P : Program) : Kont → Exit → Act → World → Prop
  | .done Q => Q
  | .seq y K => Exit.then (fun a w => y.wp P (K.post P) a w) (K.post P)
  | .blk id K => Exit.inBlock id (K.post P)
  | .loop I K => Exit.then I (K.post P)
def Kont.bottom : Kont → Exit → Act → World → Prop
  | .done Q => Q
  | .seq _ K => K.bottom
  | .blk _ K => K.bottom
  | .loop _ K => K.bottom
def Kont.out (id : Nat) : Kont → Kont
  | .done Q => .done fun _ => Q (.exit id)
  | .seq _ K => K.out id
  | .blk id' K => bif Nat.beq id id' then K else K.out id
  | .loop _ K => K.out id
theorem Kont.post_ret (P : Program) (a : Act) (w : World) : ∀ K : Kont, K.post P .ret a w = K.bottom .ret a w
  | .done _ => rfl
  | .seq _ K => Kont.post_ret P a w K
  | .blk _ K => Kont.post_ret P a w K
  | .loop _ K => Kont.post_ret P a w K
theorem Kont.post_out (P : Program) (id : Nat) (a : Act) (w : World) : ∀ K : Kont, (K.out id).post P .normal a w → K.post P (.exit id) a w
  | .done _, h => h
  | .seq _ K, h => Kont.post_out P id a w K h
  | .loop _ K, h => Kont.post_out P id a w K h
  | .blk id' K, h => by
    unfold Kont.out at h
    unfold Kont.post
    simp only [Exit.inBlock]
    cases hb : Nat.beq id id' with
    | true =>
      rw [hb] at h
      rw [if_pos (Nat.eq_of_beq_eq_true hb)]
      exact h
    | false =>
      rw [hb] at h
      rw [if_neg (Nat.ne_of_beq_eq_false hb)]
      exact Kont.post_out P id a w K h

section
variable (P : Program) (n : Nat) (W : World)
def JC (c : Code) (K : Kont) (f : Fr) (l : List Ent) : Prop := ∀ w, SH W l w → c.wp P (K.post P) (act n f) w
def RN (K : Kont) (f : Fr) (l : List Ent) : Prop := ∀ w, SH W l w → K.post P .normal (act n f) w
def RT (K : Kont) (f : Fr) (l : List Ent) : Prop := ∀ w, SH W l w → K.bottom .ret (act n f) w
def JL (ops : Array Oper) (K : Kont) (rest : List Oper) (f : Fr) (l : List Ent) : Prop := ∀ w, SH W l w → wpList P ops (K.post P) rest (act n f) w
end

section
variable {P : Program} {n : Nat} {W : World} {K : Kont} {f : Fr} {l : List Ent} {ops : Array Oper} {rest : List Oper}

theorem JC.seq {x y : Code} (h : JC P n W x (.seq y K) f l) : JC P n W (x.seq y) K f l := fun w hw => wp_seq (h w hw)
theorem JC.block {id : Nat} {c : Code} (h : JC P n W c (.blk id K) f l) : JC P n W (.block id c) K f l := fun w hw => wp_block (h w hw)
theorem JC.skip (h : RN P n W K f l) : JC P n W .skip K f l := fun w hw => wp_skip (h w hw)
theorem JC.ret (h : RT n W K f l) : JC P n W .ret K f l := fun w hw => wp_ret (by rw [Kont.post_ret]; exact h w hw)
theorem JC.exit {id : Nat} (h : RN P n W (K.out id) f l) : JC P n W (.exit id) K f l := fun w hw => wp_exit (Kont.post_out P id _ _ K (h w hw))
theorem JC.cond_t {c : Operand} {x y : Code} (hc : ev n f c = .bool true) (h : JC P n W x K f l) : JC P n W (.cond c x y) K f l := fun w hw => wp_cond_true (by rw [act_eval]; exact hc) (h w hw)
theorem JC.cond_f {c : Operand} {x y : Code} (hc : ev n f c = .bool false) (h : JC P n W y K f l) : JC P n W (.cond c x y) K f l := fun w hw => wp_cond_false (by rw [act_eval]; exact hc) (h w hw)
theorem JC.cond {c : Operand} {x y : Code} {b : Bool} (hc : ev n f c = .bool b) (h1 : b = true → JC P n W x K f l) (h2 : b = false → JC P n W y K f l) : JC P n W (.cond c x y) K f l := by
  cases b with
  | true => exact JC.cond_t hc (h1 rfl)
  | false => exact JC.cond_f hc (h2 rfl)
theorem JC.region {id : Nat} {ol : List Oper} (h : JL P n W ol.toArray K ol f l) : JC P n W (.region id ol.toArray false) K f l := fun w hw => wp_region_lit (h w hw)
theorem RN.seq {y : Code} (h : JC P n W y K f l) : RN P n W (.seq y K) f l := h
theorem RN.blk {id : Nat} (h : RN P n W K f l) : RN P n W (.blk id K) f l := h
theorem JL.nil (h : RN P n W K f l) : JL P n W ops K [] f l := h

/-- The loop: the invariant bears the number of what is left. -/
def Inv (n : Nat) (W : World) (I : Nat → Fr → List Ent → Prop) (m : Nat) (a : Act) (w : World) : Prop := ∃ m', m' < m ∧ ∃ f l, a = act n f ∧ SH W l w ∧ I m' f l
theorem RN.loop {I : Nat → Fr → List Ent → Prop} {m m' : Nat} (hm : m' < m) (h : I m' f l) : RN P n W (.loop (Inv n W I m) K) f l := fun _ hw => ⟨m', hm, f, l, rfl, hw, h⟩
theorem JC.loop {c : Code} (I : Nat → Fr → List Ent → Prop) (m0 : Nat) (h0 : I m0 f l) (h : ∀ m f l, I m f l → JC P n W c (.loop (Inv n W I m) K) f l) : JC P n W (.loop c) K f l := by
  intro w hw
  let J : Nat → Act → World → Prop := fun m a w => ∃ f l, a = act n f ∧ SH W l w ∧ I m f l
  have hex : ∃ μ : Act → World → Nat, ∀ a w, (∃ m, J m a w) → J (μ a w) a w ∧ ∀ k, J k a w → μ a w ≤ k := by
    have : ∀ a w, ∃ m, (∃ m, J m a w) → J m a w ∧ ∀ k, J k a w → m ≤ k := fun a w => by
      by_cases hx : ∃ m, J m a w
      · obtain ⟨m, hm⟩ := hx
        obtain ⟨m', h1, h2⟩ := exists_least (fun m => J m a w) m hm
        exact ⟨m', fun _ => ⟨h1, h2⟩⟩
      · exact ⟨0, fun h => absurd h hx⟩
    exact ⟨fun a w => Classical.choose (this a w), fun a w => Classical.choose_spec (this a w)⟩
  obtain ⟨μ, hμ⟩ := hex
  refine wp_loop (fun a w => ∃ m, J m a w) μ ⟨m0, f, l, rfl, hw, h0⟩ fun a w hJ => ?_
  obtain ⟨⟨f1, l1, ha, hs, hI⟩, _⟩ := hμ a w hJ
  have hc := h _ f1 l1 hI w hs
  rw [← ha] at hc
  refine wp_mono hc fun e a' w' hq => ?_
  cases e <;> try exact hq
  obtain ⟨m', hlt, f', l', ha', hs', hI'⟩ := hq
  have hJ' : ∃ m, J m a' w' := ⟨m', f', l', ha', hs', hI'⟩
  exact ⟨hJ', Nat.lt_of_le_of_lt ((hμ a' w' hJ').2 m' ⟨f', l', ha', hs', hI'⟩) hlt⟩

/-! ### Steps in the text's order -/
variable {d : Option Tmp} {op : Op} {ty : TypeId} {pos : String} {af : Array Edge} {gd : Option (Nat × Bool)}
theorem JL.step (hw : wantF ops n f gd = true) (h : Eff P W l ⟨d, op, ty, pos, af, gd⟩ (ev n f) fun v l' => JL P n W ops K rest (put f d v) l') : JL P n W ops K (⟨d, op, ty, pos, af, gd⟩ :: rest) f l := by
  intro w hs
  refine wpList_step fun K' hK' => ?_
  rw [act_wanted, if_pos hw]
  refine OpW.wp ?_
  rw [act_eval]
  refine (h w hs).mono fun v w' ⟨l', hs', hj⟩ => ?_
  rw [act_put]
  exact hK' _ _ (hj w' hs')
theorem JL.omit (hw : wantF ops n f gd = false) (h : JL P n W ops K rest (put f d undef) l) : JL P n W ops K (⟨d, op, ty, pos, af, gd⟩ :: rest) f l := by
  intro w hs
  refine wpList_step fun K' hK' => ?_
  rw [act_wanted, hw]
  simp only [Bool.false_eq_true, if_false]
  rw [act_put]
  exact hK' _ _ (h w hs)
theorem Eff.pure {o : Oper} {ρ : Operand → Value} {v : Value} {Ψ : Value → List Ent → Prop} (hy : Yld P o ρ v) (h : Ψ v l) : Eff P W l o ρ Ψ := fun w hs => hy.opw ⟨l, hs, h⟩
theorem Eff.read {o : Oper} {ρ : Operand → Value} {v : Value} {Ψ : Value → List Ent → Prop} {b : Nat} {p : Obj → Prop} (i : Nat) (he : l[i]? = some (b, p)) (hy : YldIf P (At b p) o ρ v) (h : Ψ v l) : Eff P W l o ρ Ψ :=
  fun _ hs => hy.opw (hs.at_ he).2 ⟨l, hs, h⟩
theorem Eff.was {o : Oper} {ρ : Operand → Value} {v : Value} {Ψ : Value → List Ent → Prop} (hy : YldIf P (Was W) o ρ v) (h : Ψ v l) : Eff P W l o ρ Ψ :=
  fun _ hs => hy.opw hs.below ⟨l, hs, h⟩
theorem JL.pure {v : Value} (hw : wantF ops n f gd = true) (hy : Yld P ⟨d, op, ty, pos, af, gd⟩ (ev n f) v) (h : JL P n W ops K rest (put f d v) l) : JL P n W ops K (⟨d, op, ty, pos, af, gd⟩ :: rest) f l := .step hw (.pure hy h)
theorem JL.read {v : Value} {b : Nat} {p : Obj → Prop} (i : Nat) (he : l[i]? = some (b, p)) (hw : wantF ops n f gd = true) (hy : YldIf P (At b p) ⟨d, op, ty, pos, af, gd⟩ (ev n f) v) (h : JL P n W ops K rest (put f d v) l) : JL P n W ops K (⟨d, op, ty, pos, af, gd⟩ :: rest) f l := .step hw (.read i he hy h)
theorem JL.was {v : Value} (hw : wantF ops n f gd = true) (hy : YldIf P (Was W) ⟨d, op, ty, pos, af, gd⟩ (ev n f) v) (h : JL P n W ops K rest (put f d v) l) : JL P n W ops K (⟨d, op, ty, pos, af, gd⟩ :: rest) f l := .step hw (.was hy h)
theorem JL.shuf (idx : List Nat) (k : Nat) (hn : idx.Nodup) (h : JL P n W ops K rest f (Lg.shuf l idx k)) : JL P n W ops K rest f l := fun w hs => h w (hs.shuf idx k hn)
theorem JC.shuf {c : Code} (idx : List Nat) (k : Nat) (hn : idx.Nodup) (h : JC P n W c K f (Lg.shuf l idx k)) : JC P n W c K f l := fun w hs => h w (hs.shuf idx k hn)
theorem JC.weaken {c : Code} {l' : List Ent} (h : JC P n W c K f l') (hl : l.map (·.1) = l'.map (·.1)) (hp : ∀ (i b : Nat) (p p' : Obj → Prop), l[i]? = some (b, p) → l'[i]? = some (b, p') → ∀ o, p o → p' o) : JC P n W c K f l := fun w hs => h w (hs.weaken hl hp)
end

/-! ### Contracts -/
/-- Called with these arguments over these blocks: it returns v over the blocks l'. -/
def Tr (P : Program) (g : FuncId) (args : Array Value) (W : World) (l : List Ent) (Φ : Value → List Ent → Prop) : Prop :=
  ∀ w, SH W l w → Calls P g args w fun e w' => ∃ v l', e = .returned v ∧ SH W l' w' ∧ Φ v l'
theorem Tr.mono {P : Program} {g : FuncId} {args : Array Value} {W : World} {l : List Ent} {Φ Φ' : Value → List Ent → Prop} (h : Tr P g args W l Φ) (hp : ∀ v l', Φ v l' → Φ' v l') : Tr P g args W l Φ' :=
  fun w hs => (h w hs).mono fun _ _ ⟨v, l', he, hs', hf⟩ => ⟨v, l', he, hs', hp _ _ hf⟩
theorem Tr.shuf {P : Program} {g : FuncId} {args : Array Value} {W : World} {l : List Ent} {Φ : Value → List Ent → Prop} (idx : List Nat) (k : Nat) (hn : idx.Nodup) (h : Tr P g args W (shuf l idx k) Φ) : Tr P g args W l Φ :=
  fun w hs => h w (hs.shuf idx k hn)
def frL : List Value → Fr := fun vs i => vs[i]?.getD undef
theorem frL_act (args : Array Value) (n : Nat) (h : args.size ≤ n) : (⟨args ++ Array.replicate (n - args.size) undef, []⟩ : Act) = act n (frL args.toList) := by
  unfold act
  congr 1
  apply Array.ext
  · simp; omega
  · intro i h1 h2
    simp only [Array.getElem_append, Array.getElem_replicate, Array.getElem_ofFn, frL]
    split
    · rename_i hlt; simp [hlt]
    · rename_i hge; simp [Array.getElem?_eq_none (Nat.le_of_not_lt hge)]
def Fin (P : Program) (fn : Func) (W : World) (Φ : Value → List Ent → Prop) : Kont := .done (bodyPost P fn fun e w' => ∃ v l', e = .returned v ∧ SH W l' w' ∧ Φ v l')
theorem Tr.of_code {P : Program} {g : FuncId} {fn : Func} {c : Code} {args : List Value} {W : World} {l : List Ent} {Φ : Value → List Ent → Prop} {n : Nat}
    (hf : P.funcs[g]? = some fn) (hb : fn.body = some c) (hn : fn.ntmps = n) (ha : args.length ≤ n) (h : JC P n W c (Fin P fn W Φ) (frL args) l) : Tr P g args.toArray W l Φ := by
  intro w hs
  refine calls_of_wp hf hb ?_
  rw [hn, frL_act _ _ (by simpa using ha)]
  exact h w hs
section
variable {P : Program} {fn : Func} {W : World} {Φ : Value → List Ent → Prop} {n : Nat} {f : Fr} {l : List Ent}
theorem fin_ret {e : Exit} {v : Value} (he : e = .ret ∨ e = .normal) (hr : ∀ w, SH W l w → (results fn (act n f).tmps).run P w = .ok v w) (h : Φ v l) :
    ∀ w, SH W l w → bodyPost P fn (fun e w' => ∃ v l', e = .returned v ∧ SH W l' w' ∧ Φ v l') e (act n f) w := by
  intro w hs
  rcases he with rfl | rfl <;> exact ⟨rfl, v, hr w hs, v, l, rfl, hs, h⟩
theorem act_getD (n : Nat) (f : Fr) (t : Nat) : (act n f).tmps.getD t undef = ev n f (.tmp t) := congrFun (act_eval n f) (.tmp t)
/-- One result in a slot. -/
theorem RT.one {t : Tmp} (hr : fn.results = #[.tmp t]) {K : Kont} (hK : K.bottom = (Fin P fn W Φ).bottom) {v : Value} (hv : ev n f (.tmp t) = v) (h : Φ v l) : RT n W K f l := by
  intro w hs
  rw [hK]
  exact fin_ret (.inl rfl) (fun w _ => by rw [results_tmp hr, act_getD, hv]) h w hs
theorem RT.two {t u : Tmp} (hr : fn.results = #[.tmp t, .tmp u]) {K : Kont} (hK : K.bottom = (Fin P fn W Φ).bottom) {v v' : Value} (hv : ev n f (.tmp t) = v) (hv' : ev n f (.tmp u) = v') (h : Φ (.tuple #[v, v']) l) : RT n W K f l := by
  intro w hs
  rw [hK]
  exact fin_ret (.inl rfl) (fun w _ => by rw [results_tmp2 hr, act_getD, act_getD, hv, hv']) h w hs
theorem RT.three {t u x : Tmp} (hr : fn.results = #[.tmp t, .tmp u, .tmp x]) {K : Kont} (hK : K.bottom = (Fin P fn W Φ).bottom) {v v' v'' : Value} (hv : ev n f (.tmp t) = v) (hv' : ev n f (.tmp u) = v') (hv'' : ev n f (.tmp x) = v'')
    (h : Φ (.tuple #[v, v', v'']) l) : RT n W K f l := by
  intro w hs
  rw [hK]
  exact fin_ret (.inl rfl) (fun w _ => by rw [results_tmp3 hr, act_getD, act_getD, act_getD, hv, hv', hv'']) h w hs
theorem RT.none {K : Kont} (hr : fn.results = #[]) (hK : K.bottom = (Fin P fn W Φ).bottom) (h : Φ (.tuple #[]) l) : RT n W K f l := by
  intro w hs
  rw [hK]
  exact fin_ret (.inl rfl) (fun w _ => by rw [results_none hr]) h w hs
/-- The end of a body without results. -/
theorem RN.none (hr : fn.results = #[]) (h : Φ (.tuple #[]) l) : RN P n W (Fin P fn W Φ) f l :=
  fin_ret (.inr rfl) (fun w _ => by rw [results_none hr]) h
end

/-! ### The law's own call -/
theorem Calls_of_Tr {P : Program} {g : FuncId} {args : Array Value} {w : World} (h : Tr P g args w [] fun v _ => v = .bool true) :
    Calls P g args w fun e w' => e = .returned (.bool true) ∧ Below w.heap.size w w' :=
  (h w (SH.start w)).mono fun _ _ ⟨v, _, he, hs, hv⟩ => ⟨by rw [he, hv], hs.below⟩
end Go.Lg
