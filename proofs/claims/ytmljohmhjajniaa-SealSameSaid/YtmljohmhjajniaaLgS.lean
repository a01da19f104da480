import Derived.Test.YtmljohmhjajniaaLgX
import Derived.Defers
import Derived.Laws.LoneSync
set_option linter.unusedVariables false
set_option linter.unusedSimpArgs false
namespace Go.Lg
open Go.RowKit
section
variable {P : Program} {ρ : Operand → Value} {d : Option Tmp} {ty : TypeId} {pos : String} {af : Array Edge} {gd : Option (Nat × Bool)} {W : World} {l l' : List Ent} {Ψ : Value → List Ent → Prop}
/-! ### Calls that the model answers itself -/
theorem e_callX {g : FuncId} {fo : Operand} {first cap : Array Value} {args : Array Operand} {ats : Array TypeId} {vs : List Value} {v : Value}
    (hfo : ρ fo = .func (.func g) first cap) (ha : first.toList ++ (args.toList.map ρ ++ cap.toList) = vs) (hr : ∀ w, SH W l w → ∃ w', (callFunc g vs.toArray).run P w = .ok (.value v) w' ∧ SH W l' w') (h : Ψ v l') :
    Eff P W l ⟨d, .call { callee := .value fo, args := args, argTypes := ats }, ty, pos, af, gd⟩ ρ Ψ := by
  intro w hw
  subst ha
  obtain ⟨w', h1, h2⟩ := hr w hw
  have e2 : first ++ args.map ρ ++ cap = (first.toList ++ (args.toList.map ρ ++ cap.toList)).toArray := by
    apply Array.ext'
    simp
  have e1 : (execOp ρ ⟨d, .call { callee := .value fo, args := args, argTypes := ats }, ty, pos, af, gd⟩).run P w = .ok (.value v) w' := by
    simp only [execOp, resolve, hfo, Deferred.ofValue, Sem.run_bind, Sem.run_pure, Result.andThen_ok, invoke]
    rw [e2]
    exact h1
  unfold OpW
  rw [e1]
  exact ⟨l', h2, h⟩
/-- A cell that is set. -/
theorem SH.cell {w : World} {T : TypeId} {b o : Nat} {cs : List Value} (hw : SH W l w) (i : Nat) (he : l[i]? = some (b, isC T cs)) (ho : o < cs.length) (v : Value) :
    (∃ x, nth cs o = some x ∧ w.cell? ⟨b, o, none⟩ = some x) ∧ w.frozen? ⟨b, o, none⟩ = false ∧ SH W (l.set i (b, isC T (spl cs o [v]))) (w.setCell ⟨b, o, none⟩ v) := by
  obtain ⟨_, ob, hb, fz, rfl, hf⟩ := hw.at_ he
  refine ⟨⟨cs[o], by rw [nth_eq, List.getElem?_eq_getElem ho], by rw [cell_at hb]; simp [ho]⟩, frozen_at hb (by simpa using hf) (by simpa using ho), ?_⟩
  rw [setCell_setB hb]
  refine hw.set_ he (setB_ok w hb _) ⟨fz, ?_, by rw [spl_length]; exact hf⟩
  rw [spl_one]
  simp
theorem SH.cellv {w : World} {T : TypeId} {b o : Nat} {cs : List Value} {x : Value} (hw : SH W l w) (i : Nat) (he : l[i]? = some (b, isC T cs)) (hx : nth cs o = some x) (v : Value) :
    w.cell? ⟨b, o, none⟩ = some x ∧ w.frozen? ⟨b, o, none⟩ = false ∧ SH W (l.set i (b, isC T (spl cs o [v]))) (w.setCell ⟨b, o, none⟩ v) := by
  have ho : o < cs.length := by rw [nth_eq] at hx; exact (List.getElem?_eq_some_iff.1 hx).1
  obtain ⟨⟨y, h1, h2⟩, h3, h4⟩ := hw.cell i he ho v
  rw [hx] at h1
  exact ⟨by rw [h2, ← h1], h3, h4⟩
/-- A pointer handed on as an unsafe one. -/
theorem r_unsafe {s t t' T : TypeId} {x : Operand} {b o : Nat} {cs : List Value} {v : Value} (hs : P.underlying s = some (.pointer t')) (hd : P.underlying t = some .unsafePointer) (hsz : (P.info? t').map (fun i => decide (i.size = 0)) = some false)
    (hx : ρ x = .pointer (some ⟨b, o, none⟩)) (hv : nth cs o = some v) : YldIf P (At b (isC T cs)) ⟨d, .convert s t x, ty, pos, af, gd⟩ ρ (.pointer (some ⟨b, o, none⟩)) := by
  rintro w ⟨_, hb, fz, rfl, _⟩
  rw [nth_eq] at hv
  have hr := run_convert_to_unsafe (P := P) hs hd hsz (a := ⟨b, o, none⟩) (w := w) (v := v) (by rw [cell_at hb]; simpa using hv)
  simp only [execOp, hx, Sem.run_bind, hr, Result.andThen_ok, Sem.run_pure]
end
/-! ### Deferred calls -/
def TrD (P : Program) (g : FuncId) (args : Array Value) (W : World) (l : List Ent) (Φ : Value → List Ent → Prop) : Prop :=
  ∀ u w, SH W l w → CallsD P g args u w fun e u' w' => u' = u ∧ ∃ v l', e = .returned v ∧ SH W l' w' ∧ Φ v l'
theorem TrD.of_code {P : Program} {g : FuncId} {fn : Func} {c : Code} {args : List Value} {W : World} {l : List Ent} {Φ : Value → List Ent → Prop} {n : Nat}
    (hf : P.funcs[g]? = some fn) (hb : fn.body = some c) (hn : fn.ntmps = n) (ha : args.length ≤ n) (h : JC P n W c (Fin P fn W Φ) (frL args) l) : TrD P g args.toArray W l Φ := by
  intro u w hs
  refine callsD_of_wp hf hb ?_
  rw [hn, frL_act _ _ (by simpa using ha)]
  exact h w hs
theorem TrD.perm {P : Program} {g : FuncId} {args : Array Value} {W : World} {l l' : List Ent} {Φ : Value → List Ent → Prop} (hp : l.Perm l') (h : TrD P g args W l' Φ) : TrD P g args W l Φ := fun u w hs => h u w (hs.perm hp)
/-! ### A body that defers -/
def actd (n : Nat) (f : Fr) (ds : List Deferred) : Act := ⟨(act n f).tmps, ds⟩
theorem actd_eval (n : Nat) (f : Fr) (ds : List Deferred) : (actd n f ds).eval = ev n f := by
  funext x
  have := congrFun (act_eval n f) x
  cases x <;> exact this
theorem actd_put (n : Nat) (f : Fr) (ds : List Deferred) (d : Option Tmp) (v : Value) : (actd n f ds).put d v = actd n (put f d v) ds := by
  have h := act_put n f d v
  cases d with
  | none => rfl
  | some d =>
    unfold actd
    rw [← h]
    rfl
section
variable (P : Program) (n : Nat) (W : World)
def JCd (c : Code) (K : Kont) (f : Fr) (ds : List Deferred) (l : List Ent) : Prop := ∀ w, SH W l w → c.wp P (K.post P) (actd n f ds) w
def RNd (K : Kont) (f : Fr) (ds : List Deferred) (l : List Ent) : Prop := ∀ w, SH W l w → K.post P .normal (actd n f ds) w
def JLd (ops : Array Oper) (K : Kont) (rest : List Oper) (f : Fr) (ds : List Deferred) (l : List Ent) : Prop := ∀ w, SH W l w → wpList P ops (K.post P) rest (actd n f ds) w
end
section
variable {P : Program} {n : Nat} {W : World} {K : Kont} {f : Fr} {ds : List Deferred} {l l' : List Ent} {ops : Array Oper} {rest : List Oper}
theorem JCd.seq {x y : Code} (h : JCd P n W x (.seq y K) f ds l) : JCd P n W (x.seq y) K f ds l := fun w hw => wp_seq (h w hw)
theorem JCd.skip (h : RNd P n W K f ds l) : JCd P n W .skip K f ds l := fun w hw => wp_skip (h w hw)
theorem JCd.cond_t {c : Operand} {x y : Code} (hc : ev n f c = .bool true) (h : JCd P n W x K f ds l) : JCd P n W (.cond c x y) K f ds l := fun w hw => wp_cond_true (by rw [actd_eval]; exact hc) (h w hw)
theorem JCd.cond_f {c : Operand} {x y : Code} (hc : ev n f c = .bool false) (h : JCd P n W y K f ds l) : JCd P n W (.cond c x y) K f ds l := fun w hw => wp_cond_false (by rw [actd_eval]; exact hc) (h w hw)
theorem JCd.region {id : Nat} {ol : List Oper} (h : JLd P n W ol.toArray K ol f ds l) : JCd P n W (.region id ol.toArray false) K f ds l := fun w hw => wp_region_lit (h w hw)
theorem RNd.seq {y : Code} (h : JCd P n W y K f ds l) : RNd P n W (.seq y K) f ds l := h
theorem JLd.nil (h : RNd P n W K f ds l) : JLd P n W ops K [] f ds l := h
theorem JLd.perm (hp : l.Perm l') (h : JLd P n W ops K rest f ds l') : JLd P n W ops K rest f ds l := fun w hs => h w (hs.perm hp)
theorem JLd.cast (hp : l = l') (h : JLd P n W ops K rest f ds l') : JLd P n W ops K rest f ds l := hp ▸ h
variable {d : Option Tmp} {op : Op} {ty : TypeId} {pos : String} {af : Array Edge}
theorem JLd.step (h : Eff P W l ⟨d, op, ty, pos, af, none⟩ (ev n f) fun v l' => JLd P n W ops K rest (put f d v) ds l') : JLd P n W ops K (⟨d, op, ty, pos, af, none⟩ :: rest) f ds l := by
  intro w hs
  refine wpList_step fun K' hK' => ?_
  have hw : Region.wanted (⟨d, op, ty, pos, af, none⟩ : Oper) (yielded ops (actd n f ds).tmps) = true := rfl
  rw [if_pos hw]
  refine OpW.wp ?_
  rw [actd_eval]
  refine (h w hs).mono fun v w' ⟨l', hs', hj⟩ => ?_
  rw [actd_put]
  exact hK' _ _ (hj w' hs')
theorem JLd.pure {v : Value} (hy : Yld P ⟨d, op, ty, pos, af, none⟩ (ev n f) v) (h : JLd P n W ops K rest (put f d v) ds l) : JLd P n W ops K (⟨d, op, ty, pos, af, none⟩ :: rest) f ds l := .step (.pure hy h)
theorem JLd.defer {g : FuncId} {fo : Operand} {first cap : Array Value} {args : Array Operand} {ats : Array TypeId} {vs : List Value} (hfo : ev n f fo = .func (.func g) first cap) (ha : first.toList ++ args.toList.map (ev n f) = vs)
    (h : JLd P n W ops K rest (put f d undef) (⟨.fn (.func g) cap, vs.toArray⟩ :: ds) l) : JLd P n W ops K (⟨d, .defer { callee := .value fo, args := args, argTypes := ats }, ty, pos, af, none⟩ :: rest) f ds l := by
  intro w hs
  have ha' : vs.toArray = first ++ args.map (ev n f) := by
    subst ha
    apply Array.ext'
    simp
  rw [ha'] at h
  refine wpList_step fun K' hK' => ?_
  have hw : Region.wanted (⟨d, .defer { callee := .value fo, args := args, argTypes := ats }, ty, pos, af, none⟩ : Oper) (yielded ops (actd n f ds).tmps) = true := rfl
  rw [if_pos hw]
  have e1 : (execOp (actd n f ds).eval ⟨d, .defer { callee := .value fo, args := args, argTypes := ats }, ty, pos, af, none⟩).run P w = .ok (.defer ⟨.fn (.func g) cap, first ++ args.map (ev n f)⟩) w := by
    rw [actd_eval]
    simp only [execOp, resolve, hfo, Deferred.ofValue, Sem.run_bind, Sem.run_pure, Result.andThen_ok]
  unfold Oper.wp
  rw [e1]
  have e2 : ({ actd n f ds with defers := (⟨.fn (.func g) cap, first ++ args.map (ev n f)⟩ : Deferred) :: (actd n f ds).defers } : Act).put d undef = actd n (put f d undef) (⟨.fn (.func g) cap, first ++ args.map (ev n f)⟩ :: ds) :=
    actd_put n f (⟨.fn (.func g) cap, first ++ args.map (ev n f)⟩ :: ds) d undef
  show K' (({ actd n f ds with defers := (⟨.fn (.func g) cap, first ++ args.map (ev n f)⟩ : Deferred) :: (actd n f ds).defers } : Act).put d undef) w
  rw [e2]
  exact hK' _ _ (h w hs)
end
def FinD (P : Program) (fn : Func) (W : World) (Φ : Value → List Ent → Prop) : Kont := .done (bodyPostD P fn fun e w' => ∃ v l', e = .returned v ∧ SH W l' w' ∧ Φ v l')
theorem Tr.of_defers {P : Program} {g : FuncId} {fn : Func} {c : Code} {args : List Value} {W : World} {l : List Ent} {Φ : Value → List Ent → Prop} {n : Nat}
    (hf : P.funcs[g]? = some fn) (hb : fn.body = some c) (hn : fn.ntmps = n) (ha : args.length ≤ n) (h : JCd P n W c (FinD P fn W Φ) (frL args) [] l) : Tr P g args.toArray W l Φ := by
  intro w hs
  refine calls_of_wp_defers hf hb ?_
  rw [hn, frL_act _ _ (by simpa using ha)]
  exact h w hs
/-- What lies at the door: the calls that were deferred, the last one first. -/
def Door (P : Program) (fn : Func) (W : World) (Φ : Value → List Ent → Prop) (tmps : Array Value) (ds : List Deferred) (l : List Ent) : Prop :=
  ∀ w, SH W l w → Leaves P fn tmps (fun e w' => ∃ v l', e = .returned v ∧ SH W l' w' ∧ Φ v l') ds .returning w
theorem RNd.door {P : Program} {fn : Func} {W : World} {Φ : Value → List Ent → Prop} {n : Nat} {f : Fr} {ds : List Deferred} {l : List Ent} (h : Door P fn W Φ (act n f).tmps ds l) : RNd P n W (FinD P fn W Φ) f ds l := fun w hs => h w hs
theorem Door.nil {P : Program} {fn : Func} {W : World} {Φ : Value → List Ent → Prop} {tmps : Array Value} {l : List Ent} (hr : fn.results = #[]) (h : Φ (.tuple #[]) l) : Door P fn W Φ tmps [] l :=
  fun w hs => ⟨_, results_none hr .., _, _, rfl, hs, h⟩
theorem Door.cons {P : Program} {fn : Func} {W : World} {Φ : Value → List Ent → Prop} {tmps : Array Value} {ds : List Deferred} {l : List Ent} {g : FuncId} {vs : List Value} {Φ' : Value → List Ent → Prop} [hf : FnT P g]
    (hc : TrD P g vs.toArray W l Φ') (h : ∀ v l', Φ' v l' → Door P fn W Φ tmps ds l') : Door P fn W Φ tmps (⟨.fn (.func g) #[], vs.toArray⟩ :: ds) l := by
  intro w hs
  refine leaves_cons (f := g) (args := vs.toArray) (by simp) ?_ ?_
  · obtain ⟨fn', h1, h2, h3⟩ := hf.h
    have := run_enter h1 h2 h3 vs.toArray w
    simpa [invoke] using this
  · refine (hc .returning w hs).mono ?_
    rintro e u' w' ⟨rfl, v, l', rfl, hs', hp⟩
    exact h v l' hp w' hs'
end Go.Lg
