import Derived.Test.YtplblpakbkgfeaaLgO
import Derived.Maps.AppendAt
import Derived.Laws.OwnMore
set_option linter.unusedVariables false
set_option linter.unusedSimpArgs false
namespace Go.Lg
open Go.RowKit

theorem loadFrom_agg (P : Program) {w : World} {b o : Nat} {cs : Array Value} {T : TypeId} {fz : Nat × Nat} (h : w.heap[b]? = some (.cells cs T fz)) : ∀ (n i : Nat) (acc : Array Value), o + i + n ≤ cs.size →
    (loadCellsFrom ⟨b, o, none⟩ i n acc).run P w = .ok (acc ++ cs.extract (o + i) (o + i + n)) w
  | 0, i, acc, _ => by
    have : cs.extract (o + i) (o + i + 0) = #[] := by apply Array.ext'; simp
    rw [this]; simp [loadCellsFrom]
  | n + 1, i, acc, hl => by
    have hc : w.cell? ⟨b, o + i, none⟩ = some (cs[o + i]'(by omega)) := by rw [cell_at h]; exact Array.getElem?_eq_getElem _
    rw [loadCellsFrom, Sem.run_bind, addr_add]
    simp only [load, Sem.run, hc, Result.andThen_ok]
    rw [loadFrom_agg P h n (i + 1) _ (by omega)]
    congr 1
    apply Array.ext'
    simp only [Array.toList_append, Array.toList_push, Array.toList_extract, List.append_assoc, List.singleton_append]
    congr 1
    rw [List.extract_eq_take_drop, List.extract_eq_take_drop]
    rw [show o + i + (n + 1) - (o + i) = n + 1 from by omega, show o + (i + 1) + n - (o + (i + 1)) = n from by omega]
    rw [show o + (i + 1) = o + i + 1 from by omega]
    rw [List.drop_eq_getElem_cons (i := o + i) (by simp; omega), List.take_succ_cons]
    simp
theorem run_loadVar_agg (P : Program) {w : World} {b o : Nat} {cs : Array Value} {T t : TypeId} {fz : Nat × Nat} {n : Nat} (h : w.heap[b]? = some (.cells cs T fz)) (ha : aggB P t = some true) (hs : szB P t = some n) (hl : o + n ≤ cs.size) :
    (loadVar t ⟨b, o, none⟩).run P w = .ok (.agg (cs.extract o (o + n))) w := by
  have := loadFrom_agg P h n 0 #[] (by omega)
  simp only [loadVar, Sem.run_bind, run_isAgg ha, Result.andThen_ok, if_true, run_sizeOf hs, loadCells, this]
  simp
theorem run_loadVar_one (P : Program) {w : World} {a : Addr} {t : TypeId} {v : Value} (hc : w.cell? a = some v) (ha : aggB P t = some false) : (loadVar t a).run P w = .ok v w := by
  simp [loadVar, Sem.run_bind, run_isAgg ha, load, Sem.run, hc]

section
variable {P : Program} {ρ : Operand → Value} {d : Option Tmp} {ty : TypeId} {pos : String} {af : Array Edge} {gd : Option (Nat × Bool)} {W : World} {l : List Ent} {Ψ : Value → List Ent → Prop}
/-! ### Loads -/
theorem r_load1 {t T : TypeId} {x : Operand} {b o : Nat} {cs : List Value} {v : Value} [ha : Agg P t false] (h : ρ x = .pointer (some ⟨b, o, none⟩)) (hv : nth cs o = some v) : YldIf P (At b (isC T cs)) ⟨d, .load t x, ty, pos, af, gd⟩ ρ v := by
  rintro w ⟨_, hb, fz, rfl, _⟩
  rw [nth_eq] at hv
  simp [execOp, h, Instr.loadAt, Instr.sureAddr, run_loadVar_one P (by rw [cell_at hb]; simpa using hv) ha.h]
theorem r_loadA {t T : TypeId} {x : Operand} {b o n : Nat} {cs v : List Value} [ha : Agg P t true] [hs : Sz P t n] (h : ρ x = .pointer (some ⟨b, o, none⟩)) (hl : o + n ≤ cs.length) (hv : seg cs o n = v) : YldIf P (At b (isC T cs)) ⟨d, .load t x, ty, pos, af, gd⟩ ρ (.agg v.toArray) := by
  rintro w ⟨_, hb, fz, rfl, _⟩
  subst hv
  have he : cs.toArray.extract o (o + n) = (seg cs o n).toArray := by
    apply Array.ext'
    rw [Array.toList_extract, List.extract_eq_take_drop, show o + n - o = n from by omega]
    rfl
  simp [execOp, h, Instr.loadAt, Instr.sureAddr, run_loadVar_agg P hb ha.h hs.h (by simpa using hl), he]
/-- A whole variable. -/
theorem r_loadW {t T : TypeId} {x : Operand} {b n : Nat} {cs : List Value} [ha : Agg P t true] [hs : Sz P t n] (h : ρ x = .pointer (some ⟨b, 0, none⟩)) (hl : cs.length = n) : YldIf P (At b (isC T cs)) ⟨d, .load t x, ty, pos, af, gd⟩ ρ (.agg cs.toArray) :=
  r_loadA h (by omega) (by unfold seg; rw [List.drop_zero, List.take_of_length_le (by omega)])
theorem row_get {cur : Array Value} {xs : List Value} (h : cur.toList.take xs.length = xs) {j : Nat} {v : Value} (hv : xs[j]? = some v) : cur[j]? = some v := by
  rw [← h, List.getElem?_take] at hv
  split at hv
  · simpa using hv
  · cases hv
theorem row_len {cur : Array Value} {xs : List Value} (h : cur.toList.take xs.length = xs) : xs.length ≤ cur.size := by
  have := congrArg List.length h
  simp at this
  omega
theorem r_loadR1 {t T : TypeId} {x : Operand} {b o tot : Nat} {xs : List Value} {v : Value} [ha : Agg P t false] (h : ρ x = .pointer (some ⟨b, o, none⟩)) (hv : xs[o]? = some v) : YldIf P (At b (isR T tot xs)) ⟨d, .load t x, ty, pos, af, gd⟩ ρ v := by
  rintro w ⟨_, hb, cur, rfl, _, hx⟩
  simp [execOp, h, Instr.loadAt, Instr.sureAddr, run_loadVar_one P (by rw [cell_at hb]; exact row_get hx hv) ha.h]
theorem r_loadRA {t T : TypeId} {x : Operand} {b o n tot : Nat} {xs : List Value} {v : List Value} [ha : Agg P t true] [hs : Sz P t n] (h : ρ x = .pointer (some ⟨b, o, none⟩)) (hl : o + n ≤ xs.length) (hv : (xs.drop o).take n = v) : YldIf P (At b (isR T tot xs)) ⟨d, .load t x, ty, pos, af, gd⟩ ρ (.agg v.toArray) := by
  rintro w ⟨_, hb, cur, rfl, _, hx⟩
  subst hv
  have h1 := row_len hx
  have he : cur.extract o (o + n) = ((xs.drop o).take n).toArray := by
    apply Array.ext'
    rw [Array.toList_extract, List.extract_eq_take_drop, show o + n - o = n from by omega]
    show _ = (xs.drop o).take n
    apply List.ext_getElem?
    intro i
    rw [List.getElem?_take, List.getElem?_take, List.getElem?_drop, List.getElem?_drop]
    split
    · rename_i hi
      have hlt : o + i < xs.length := by omega
      rw [Array.getElem?_toList, row_get hx (List.getElem?_eq_getElem hlt), List.getElem?_eq_getElem hlt]
    · rfl
  simp [execOp, h, Instr.loadAt, Instr.sureAddr, run_loadVar_agg P hb ha.h hs.h (by omega : o + n ≤ cur.size), he]
/-- What lay there before the law began. -/
theorem w_load1 {t : TypeId} {x : Operand} {a : Addr} {v : Value} [ha : Agg P t false] (h : ρ x = .pointer (some a)) (hv : W.cell? a = some v) : YldIf P (Was W) ⟨d, .load t x, ty, pos, af, gd⟩ ρ v := by
  intro w hw
  have hlt := World.block_lt_of_cell? W a hv
  have hc : w.cell? a = some v := (Below.cell hw hlt).trans hv
  simp [execOp, h, Instr.loadAt, Instr.sureAddr, run_loadVar_one P hc ha.h]
theorem w_loadA {t : TypeId} {x : Operand} {a : Addr} {cs : List Value} [ha : Agg P t true] [hs : Sz P t cs.length] (h : ρ x = .pointer (some a)) (hv : ∀ j v, cs[j]? = some v → W.cell? (a.add j) = some v) : YldIf P (Was W) ⟨d, .load t x, ty, pos, af, gd⟩ ρ (.agg cs.toArray) := by
  intro w hw
  have hl : (loadCells a cs.length).run P w = .ok cs.toArray w := run_loadCells_list (P := P) w a cs fun j v hj => by
    have := hv j v hj
    exact (Below.cell hw (World.block_lt_of_cell? W _ this)).trans this
  simp [execOp, h, Instr.loadAt, Instr.sureAddr, loadVar, Sem.run_bind, run_isAgg ha.h, run_sizeOf hs.h, hl]
/-! ### New blocks -/
theorem e_new {o : Oper} {ob : Obj} {p : Obj → Prop} {v : Nat → Value} (hr : ∀ w, (execOp ρ o).run P w = .ok (.value (v w.heap.size)) (w.alloc ob)) (hp : p ob) (h : ∀ b, Ψ (v b) ((b, p) :: l)) : Eff P W l o ρ Ψ := by
  intro w hs
  unfold OpW
  rw [hr w]
  exact ⟨_, hs.alloc ob hp, h _⟩
def zeroB (P : Program) (t : TypeId) : Option (Array Value) := ((P.info? t).bind (·.zero)).map (·.cells)
theorem run_zero {P : Program} {t : TypeId} {z : Array Value} (h : zeroB P t = some z) : ∃ zv : Value, zv.cells = z ∧ ∀ w, (zeroValue t).run P w = .ok zv w := by
  unfold zeroB at h
  obtain ⟨zv, hz, rfl⟩ := Option.map_eq_some_iff.1 h
  obtain ⟨i, hi, hz⟩ := Option.bind_eq_some_iff.1 hz
  exact ⟨zv, rfl, fun w => by simp [zeroValue, typeInfo, hi, hz]⟩
class Zr (P : Program) (t : Nat) (z : outParam (List Value)) : Prop where
  h : zeroB P t = some z.toArray
theorem e_alloc {t : TypeId} {z : List Value} [hz : Zr P t z] (h : ∀ b, Ψ (.pointer (some ⟨b, 0, none⟩)) ((b, isC t z) :: l)) : Eff P W l ⟨d, .alloc t, ty, pos, af, gd⟩ ρ Ψ := by
  obtain ⟨zv, hzv, hr⟩ := run_zero hz.h
  refine e_new (v := fun b => .pointer (some ⟨b, 0, none⟩)) (fun w => ?_) (isC_mk t z.toArray) h
  simp [execOp, Instr.alloc, hr w, newVar, newRow, newObj, Sem.run, hzv]
theorem e_box {t : TypeId} {x : Operand} {v : Value} {cs : List Value} (hx : ρ x = v) (hc : v.cells = cs.toArray) (h : ∀ b, Ψ (.pointer (some ⟨b, 0, none⟩)) ((b, isC t cs) :: l)) : Eff P W l ⟨d, .box t x, ty, pos, af, gd⟩ ρ Ψ := by
  subst hx
  refine e_new (v := fun b => .pointer (some ⟨b, 0, none⟩)) (fun w => ?_) (isC_mk t cs.toArray) h
  simp [execOp, Instr.box, newVar, newRow, newObj, Sem.run, hc]
def enumF : Nat → List Value → List (Nat × Value)
  | _, [] => []
  | k, v :: vs => (k, v) :: enumF (k + 1) vs
theorem foldl_splice (off : Nat) : ∀ (vs : List Value) (k : Nat) (cs : Array Value), (vs.zipIdx k).foldl (fun cs x => cs.setIfInBounds (off + x.2) x.1) cs = splice cs (off + k) vs
  | [], _, _ => rfl
  | v :: vs, k, cs => by
    rw [List.zipIdx_cons, List.foldl_cons, foldl_splice off vs (k + 1) _]
    rfl
theorem splice_append : ∀ (a b : List Value) (o : Nat) (cs : Array Value), splice cs o (a ++ b) = splice (splice cs o a) (o + a.length) b
  | [], _, _, _ => rfl
  | v :: a, b, o, cs => by
    simp only [List.cons_append, splice, List.length_cons]
    rw [splice_append a b (o + 1) _, show o + 1 + a.length = o + (a.length + 1) from by omega]
theorem fill_seq (sz : Nat) : ∀ (vs : List Value) (k : Nat) (cs : Array Value), (∀ v ∈ vs, v.cells.size = sz) → (k + vs.length) * sz ≤ cs.size →
    Instr.fill (fun i => some (i * sz, sz)) cs (enumF k vs) = some (splice cs (k * sz) (vs.flatMap fun v => v.cells.toList))
  | [], k, cs, _, _ => rfl
  | v :: vs, k, cs, h, hl => by
    have hv := h v (List.mem_cons_self ..)
    have hle : (k + 1) * sz ≤ (k + (v :: vs).length) * sz := Nat.mul_le_mul_right _ (by simp only [List.length_cons]; omega)
    have hle2 := Nat.le_trans hle hl
    rw [Nat.add_mul, Nat.one_mul] at hle2
    simp only [enumF, Instr.fill]
    rw [if_neg (by rw [hv]; simp; omega)]
    have e1 : v.cells.zipIdx.foldl (fun cs x => cs.setIfInBounds (k * sz + x.2) x.1) cs = splice cs (k * sz) v.cells.toList := by
      rw [← Array.foldl_toList, Array.toList_zipIdx]
      exact foldl_splice (k * sz) v.cells.toList 0 cs
    have e2 := fill_seq sz vs (k + 1) (splice cs (k * sz) v.cells.toList) (fun u hu => h u (List.mem_cons_of_mem _ hu)) (by rw [splice_size]; simp only [List.length_cons] at hl; rw [show k + 1 + vs.length = k + (vs.length + 1) from by omega]; exact hl)
    rw [Nat.add_mul, Nat.one_mul] at e2
    have hlv : v.cells.toList.length = sz := by simpa using hv
    rw [List.flatMap_cons, splice_append, hlv, ← e2]
    exact congrArg (fun c => Instr.fill (fun i => some (i * sz, sz)) c (enumF (k + 1) vs)) e1
theorem splice_all {cs : Array Value} {vs : List Value} (h : vs.length = cs.size) : splice cs 0 vs = vs.toArray := by
  apply Array.ext_getElem?
  intro i
  rw [splice_get vs 0 cs i (by omega)]
  simp only [List.getElem?_toArray]
  by_cases hi : i < vs.length
  · rw [if_pos (by omega)]; rfl
  · rw [if_neg (by omega), Array.getElem?_eq_none (by omega), List.getElem?_eq_none (by omega)]
theorem flatMap_len {sz : Nat} : ∀ {vs : List Value}, (∀ v ∈ vs, v.cells.size = sz) → (vs.flatMap fun v => v.cells.toList).length = vs.length * sz
  | [], _ => by simp
  | v :: vs, h => by
    rw [List.flatMap_cons, List.length_append, flatMap_len (fun u hu => h u (List.mem_cons_of_mem _ hu)), List.length_cons, Nat.add_mul]
    have := h v (List.mem_cons_self ..)
    simp only [Array.length_toList, this, Nat.one_mul]
    omega
theorem e_buildSlice {t e : TypeId} {len sz : Nat} {parts : Array (Nat × Operand)} {z cells : List Value} (vs : List Value) [ht : SliceT P t e] [hs : Sz P e sz] [hz : Zr P e z] (hp : (parts.toList.map fun x => (x.1, ρ x.2)) = enumF 0 vs) (hlen : len * sz ≤ 2 ^ 24) (hn : vs.length = len)
    (h1 : ∀ v ∈ vs, v.cells.size = sz) (hc : (vs.flatMap fun v => v.cells.toList) = cells) (h : ∀ b, Ψ (.slice (some ⟨b, 0, none⟩) len len) ((b, isR e (len * sz) cells) :: l)) : Eff P W l ⟨d, .buildSlice t len parts, ty, pos, af, gd⟩ ρ Ψ := by
  obtain ⟨zv, hzv, hr⟩ := run_zero hz.h
  subst hn
  have hcl : cells.length = vs.length * sz := by rw [← hc]; exact flatMap_len h1
  have hpr : isR e (vs.length * sz) cells (.cells cells.toArray e) := by rw [← hcl]; exact isR_mk e cells.toArray
  refine e_new (v := fun b => .slice (some ⟨b, 0, none⟩) vs.length vs.length) (fun w => ?_) hpr h
  have hlen' : ¬ vs.length * sz > 2 ^ 24 := by omega
  have e1 : (parts.map fun x => (x.1, ρ x.2)).toList = enumF 0 vs := by simpa using hp
  have key : ∀ zs : Array Value, Instr.fill (fun i => some (i * sz, sz)) ((Array.range (vs.length * sz)).map (zs[· % zs.size]!)) (enumF 0 vs) = some cells.toArray := fun zs => by
    rw [fill_seq sz vs 0 _ h1 (by simp), Nat.zero_mul, hc, splice_all (by simpa using hcl)]
  by_cases h0 : vs.length * sz = 0
  · have key := key #[]
    rw [h0] at key
    simp only [execOp, Instr.buildSlice, Sem.run_bind, run_underlying ht.h, Result.andThen_ok, run_sizeOf hs.h, hlen', if_false, h0, if_true, Sem.run_pure, e1]
    rw [if_neg (by omega), Sem.run_bind, Sem.run_pure, Result.andThen_ok, key]
    simp [newRow, newObj, Sem.run]
  · simp only [execOp, Instr.buildSlice, Sem.run_bind, run_underlying ht.h, Result.andThen_ok, run_sizeOf hs.h, hlen', if_false, h0, hr w, Sem.run_pure, e1, key]
    simp [newRow, newObj, Sem.run]
/-! ### Stores -/
theorem e_store {t T : TypeId} {x y : Operand} {b o n : Nat} {cs vs : List Value} {v : Value} (i : Nat) (he : l[i]? = some (b, isC T cs)) [hs : Sz P t n] (hx : ρ x = .pointer (some ⟨b, o, none⟩)) (hy : ρ y = v) (hv : v.cells = vs.toArray) (hn : vs.length = n) (h1 : vs.all (·.oneCell') = true) (hl : o + n ≤ cs.length)
    (h : Ψ undef (l.set i (b, isC T (spl cs o vs)))) : Eff P W l ⟨d, .store t x y, ty, pos, af, gd⟩ ρ Ψ := by
  intro w hw
  obtain ⟨_, ob, hb, fz, rfl, hf⟩ := hw.at_ he
  have hr := run_storeCells P vs o 0 cs.toArray w hb (by simpa using hf) (by simp; omega) (fun u hu => List.all_eq_true.1 h1 u hu)
  simp only [Nat.add_zero] at hr
  rw [spl_splice cs o vs (by omega)] at hr
  have e1 : (Instr.storeAt t (.pointer (some ⟨b, o, none⟩)) v).run P w = .ok () (setB w b (.cells (spl cs o vs).toArray T fz)) := by
    simp [Instr.storeAt, Instr.sureAddr, storeVar, run_sizeOf hs.h, hv, hn, hr]
  unfold OpW
  simp only [execOp, hx, hy, Sem.run_bind, e1, Result.andThen_ok, Sem.run_pure]
  exact ⟨_, hw.set_ he (setB_ok w hb _) ⟨fz, rfl, by rw [spl_length]; exact hf⟩, h⟩
theorem e_storeR {t T : TypeId} {x y : Operand} {b o n tot : Nat} {xs : List Value} {v : Value} (i : Nat) (he : l[i]? = some (b, isR T tot xs)) [hs : Sz P t n] (hx : ρ x = .pointer (some ⟨b, o, none⟩)) (hy : ρ y = v) (hn : v.cells.size = n) (h1 : v.cells.all (·.oneCell') = true) (hl : o + n ≤ xs.length)
    (h : Ψ undef (l.set i (b, isR T tot (xs.take o ++ v.cells.toList ++ xs.drop (o + n))))) : Eff P W l ⟨d, .store t x y, ty, pos, af, gd⟩ ρ Ψ := by
  intro w hw
  obtain ⟨_, ob, hb, cur, rfl, ht, hxs⟩ := hw.at_ he
  have hlen := row_len hxs
  have hr := run_storeCells P v.cells.toList o 0 cur w hb (.inl rfl) (by simp; omega) (fun u hu => Array.all_eq_true_iff_forall_mem.1 h1 u (by simpa using hu))
  have e1 : (Instr.storeAt t (.pointer (some ⟨b, o, none⟩)) v).run P w = .ok () (setB w b (.cells (splice cur o v.cells.toList) T (0, 0))) := by
    simp only [Nat.add_zero] at hr
    simp [Instr.storeAt, Instr.sureAddr, storeVar, run_sizeOf hs.h, hn, hr]
  unfold OpW
  simp only [execOp, hx, hy, Sem.run_bind, e1, Result.andThen_ok, Sem.run_pure]
  refine ⟨_, hw.set_ he (setB_ok w hb _) ⟨splice cur o v.cells.toList, rfl, by rw [splice_size]; exact ht, ?_⟩, h⟩
  have hvl : v.cells.toList.length = n := by simpa using hn
  apply List.ext_getElem?
  intro j
  rw [List.getElem?_take, Array.getElem?_toList, splice_get _ _ _ _ (by rw [hvl]; omega)]
  have hL : (xs.take o ++ v.cells.toList ++ xs.drop (o + n)).length = xs.length := by simp; omega
  rw [hL]
  by_cases hj : j < xs.length
  · rw [if_pos hj]
    have hcj : cur[j]? = xs[j]? := by rw [row_get hxs (List.getElem?_eq_getElem hj), List.getElem?_eq_getElem hj]
    by_cases h2 : o ≤ j ∧ j < o + v.cells.toList.length
    · rw [if_pos h2, List.getElem?_append_left (by simp; omega), List.getElem?_append_right (by simp; omega)]
      congr 1; simp; omega
    · rw [if_neg h2, hcj]
      by_cases h3 : j < o
      · rw [List.getElem?_append_left (by simp; omega), List.getElem?_append_left (by simp; omega), List.getElem?_take, if_pos h3]
      · rw [List.getElem?_append_right (by simp; omega), List.getElem?_drop]
        congr 1; simp; omega
  · rw [if_neg hj, List.getElem?_eq_none (by rw [hL]; omega)]
/-! ### Calls -/
theorem run_enter {g : FuncId} {fn : Func} (hf : P.funcs[g]? = some fn) (hb : fn.body.isNone = false) (hn : (fn.name == "runtime.NumGoroutine") = false) (vs : Array Value) (w : World) : (callFunc g vs).run P w = .ok (.enter g vs) w := by
  simp only [callFunc, Sem.run_bind, run_program, Result.andThen_ok, hf, hn, hb, Bool.false_eq_true, if_false]
  rfl
class FnT (P : Program) (g : Nat) : Prop where
  h : ∃ fn, P.funcs[g]? = some fn ∧ fn.body.isNone = false ∧ (fn.name == "runtime.NumGoroutine") = false
theorem e_call {g : FuncId} {fo : Operand} {first cap : Array Value} {args : Array Operand} {ats : Array TypeId} {vs : List Value} {Φ : Value → List Ent → Prop} [hf : FnT P g]
    (hfo : ρ fo = .func (.func g) first cap) (ha : first.toList ++ (args.toList.map ρ ++ cap.toList) = vs) (hc : Tr P g vs.toArray W l Φ) (h : ∀ v l', Φ v l' → Ψ v l') : Eff P W l ⟨d, .call { callee := .value fo, args := args, argTypes := ats }, ty, pos, af, gd⟩ ρ Ψ := by
  intro w hw
  subst ha
  have e1 : (execOp ρ ⟨d, .call { callee := .value fo, args := args, argTypes := ats }, ty, pos, af, gd⟩).run P w = .ok (.enter g (first ++ args.map ρ ++ cap)) w := by
    simp only [execOp, resolve, hfo, Deferred.ofValue, Sem.run_bind, Sem.run_pure, Result.andThen_ok, invoke]
    obtain ⟨fn, hf, hb, hn⟩ := hf.h
    exact run_enter hf hb hn _ w
  unfold OpW
  rw [e1]
  have e2 : first ++ args.map ρ ++ cap = (first.toList ++ (args.toList.map ρ ++ cap.toList)).toArray := by
    apply Array.ext'
    simp
  rw [e2]
  exact (hc w hw).mono fun e w' ⟨v, l', he, hs, hp⟩ => ⟨v, he, l', hs, h v l' hp⟩
end
/-! ### Turning some blocks -/
theorem SH.turn {W w w' : World} {le le' r : List Ent} (h : SH W (le ++ r) w) (ho : w'.os = w.os) (ht : w'.tape = w.tape) (hu : w'.output = w.output) (hz : w.heap.size ≤ w'.heap.size)
    (hk : ∀ k, k < w.heap.size → k ∉ le.map (·.1) → w'.heap[k]? = w.heap[k]?) (hn : (le'.map (·.1)).Nodup) (hm : ∀ e ∈ le', W.heap.size ≤ e.1 ∧ (e.1 ∈ le.map (·.1) ∨ w.heap.size ≤ e.1) ∧ ∃ o, w'.heap[e.1]? = some o ∧ e.2 o) : SH W (le' ++ r) w' := by
  have hd := h.nodup
  rw [List.map_append, List.nodup_append] at hd
  obtain ⟨d1, d2, d3⟩ := hd
  have hr : ∀ e ∈ r, e.1 < w.heap.size ∧ e.1 ∉ le.map (·.1) := fun e he =>
    ⟨h.lt (List.mem_append_right _ he), fun hx => d3 _ hx _ (List.mem_map.2 ⟨e, he, rfl⟩) rfl⟩
  refine ⟨h.below.trans ⟨ho, ht, hu, hz, fun k hkk => hk k (Nat.lt_of_lt_of_le hkk h.below.size) fun hx => ?_⟩, ?_, fun e he => ?_⟩
  · obtain ⟨e, he, rfl⟩ := List.mem_map.1 hx
    have := (h.ents e (List.mem_append_left _ he)).1
    omega
  · rw [List.map_append, List.nodup_append]
    refine ⟨hn, d2, fun a ha b hb hab => ?_⟩
    obtain ⟨e, he, rfl⟩ := List.mem_map.1 ha
    obtain ⟨e', he', rfl⟩ := List.mem_map.1 hb
    have h1 := hr e' he'
    rcases (hm e he).2.1 with hx | hx
    · exact h1.2 (hab ▸ hx)
    · omega
  · rcases List.mem_append.1 he with he | he
    · exact ⟨(hm e he).1, (hm e he).2.2⟩
    · obtain ⟨h1, o, h2, h3⟩ := h.ents e (List.mem_append_right _ he)
      have := hr e he
      exact ⟨h1, o, by rw [hk _ this.1 this.2]; exact h2, h3⟩

/-! ### Slices that own their row -/
def Own (e : TypeId) (sz : Nat) (v : Value) (n : Nat) (xs : List Value) (le : List Ent) : Prop :=
  xs.length = n * sz ∧ ((v = .slice none 0 0 ∧ n = 0 ∧ le = []) ∨ ∃ g cap, v = .slice (some ⟨g, 0, none⟩) n cap ∧ n ≤ cap ∧ cap ≤ maxLen ∧ le = [(g, isR e (cap * sz) xs)])
theorem Own.nil (e : TypeId) (sz : Nat) : Own e sz (.slice none 0 0) 0 [] [] := ⟨by simp, .inl ⟨rfl, rfl, rfl⟩⟩
theorem Own.to {W w : World} {e : TypeId} {sz n : Nat} {v : Value} {xs : List Value} {le r : List Ent} (h : Own e sz v n xs le) (hs : SH W (le ++ r) w) : w.ownsRow W.heap.size e sz v n xs := by
  refine ⟨h.1, ?_⟩
  rcases h.2 with ⟨rfl, rfl, rfl⟩ | ⟨g, cap, rfl, hn, hc, rfl⟩
  · exact .inl ⟨rfl, rfl⟩
  · obtain ⟨hb, o, ho, cur, rfl, hz, hx⟩ := hs.ents (g, isR e (cap * sz) xs) (List.mem_append_left _ (List.mem_singleton.2 rfl))
    exact .inr ⟨g, cap, cur, rfl, hb, ho, hn, hc, hz, by rw [← h.1]; exact hx⟩
theorem Own.back {W w w' : World} {e : TypeId} {sz n n' : Nat} {v v' : Value} {xs xs' : List Value} {le r : List Ent} (h : Own e sz v n xs le) (hs : SH W (le ++ r) w)
    (ho : w'.ownsRow W.heap.size e sz v' n' xs') (hg : w.grownBy w' v.ownBlock) (hb : v'.ownBlock = v.ownBlock ∨ v'.ownBlock = some w.heap.size) : ∃ le', Own e sz v' n' xs' le' ∧ SH W (le' ++ r) w' := by
  have hids : ∀ k, some k ≠ v.ownBlock ↔ k ∉ le.map (·.1) := fun k => by
    rcases h.2 with ⟨rfl, rfl, rfl⟩ | ⟨g, cap, rfl, _, _, rfl⟩
    · simp [Value.ownBlock]
    · simp [Value.ownBlock]
  have hin : ∀ k, some k = v.ownBlock → k ∈ le.map (·.1) := fun k hk => Classical.byContradiction fun hx => (hids k).2 hx hk
  rcases ho.2 with ⟨rfl, rfl⟩ | ⟨g, cap, cur, rfl, h1, h2, h3, h4, h5, h6⟩
  · exact ⟨[], ⟨ho.1, .inl ⟨rfl, rfl, rfl⟩⟩, hs.turn hg.os hg.tape hg.output hg.size (fun k hk hx => hg.block k hk ((hids k).2 hx)) (by simp) (by simp)⟩
  · refine ⟨[(g, isR e (cap * sz) xs')], ⟨ho.1, .inr ⟨g, cap, rfl, h3, h4, rfl⟩⟩, hs.turn hg.os hg.tape hg.output hg.size (fun k hk hx => hg.block k hk ((hids k).2 hx)) (by simp) ?_⟩
    intro x hx
    obtain rfl := List.mem_singleton.1 hx
    refine ⟨h1, ?_, _, h2, cur, rfl, h5, by rw [ho.1]; exact h6⟩
    rcases hb with hb | hb
    · exact .inl (hin g (by rw [← hb]; rfl))
    · have : g = w.heap.size := by simpa [Value.ownBlock] using hb
      exact .inr (by omega)
/-- The cells of a slice that is only read. -/
def Rd (W : World) (l : List Ent) (A : Option Addr) (xs : List Value) : Prop := xs = [] ∨ ∃ a, A = some a ∧ ∀ w, SH W l w → ∀ j u, xs[j]? = some u → w.cell? (a.add j) = some u
theorem Rd.nil (W : World) (l : List Ent) (A : Option Addr) : Rd W l A [] := .inl rfl
theorem Rd.row {W : World} {l : List Ent} {T : TypeId} {g tot : Nat} {ys : List Value} (i : Nat) (he : l[i]? = some (g, isR T tot ys)) (o : Nat) {xs : List Value} (hx : ∀ j u, xs[j]? = some u → ys[o + j]? = some u) : Rd W l (some ⟨g, o, none⟩) xs :=
  .inr ⟨_, rfl, fun w hs j u hu => by
    obtain ⟨_, ob, hb, cur, rfl, _, ht⟩ := hs.at_ he
    rw [addr_add, cell_at hb]
    exact row_get ht (hx j u hu)⟩
theorem Rd.cells {W : World} {l : List Ent} {T : TypeId} {g : Nat} {cs : List Value} (i : Nat) (he : l[i]? = some (g, isC T cs)) (o : Nat) {xs : List Value} (hx : ∀ j u, xs[j]? = some u → cs[o + j]? = some u) : Rd W l (some ⟨g, o, none⟩) xs :=
  .inr ⟨_, rfl, fun w hs j u hu => by
    obtain ⟨_, ob, hb, fz, rfl, _⟩ := hs.at_ he
    rw [addr_add, cell_at hb, List.getElem?_toArray]
    exact hx j u hu⟩
theorem Rd.was {W : World} {l : List Ent} {a : Addr} {xs : List Value} (hx : ∀ j u, xs[j]? = some u → W.cell? (a.add j) = some u) : Rd W l (some a) xs :=
  .inr ⟨_, rfl, fun w hs j u hu => by
    have := hx j u hu
    exact (Below.cell hs.below (World.block_lt_of_cell? W _ this)).trans this⟩
def rowB (P : Program) (e : TypeId) : Option (Nat × Nat) := (P.info? e).bind fun i => i.zero.bind fun z => if z.cells.size = i.size ∧ 0 < i.size then some (i.size, i.bytes) else none
class RowT (P : Program) (e : Nat) (sz by_ : outParam Nat) : Prop where
  h : rowB P e = some (sz, by_)
theorem rowB_spec {P : Program} {e : TypeId} {sz by_ : Nat} (h : rowB P e = some (sz, by_)) : ∃ i z, P.info? e = some i ∧ i.zero = some z ∧ i.size = sz ∧ i.bytes = by_ ∧ z.cells.size = sz ∧ 0 < sz := by
  unfold rowB at h
  obtain ⟨i, hi, h⟩ := Option.bind_eq_some_iff.1 h
  obtain ⟨z, hz, h⟩ := Option.bind_eq_some_iff.1 h
  split at h
  · rename_i hc
    obtain ⟨h1, h2⟩ := Prod.mk.inj (Option.some.inj h)
    exact ⟨i, z, hi, hz, h1, h2, by omega, by omega⟩
  · cases h
section
variable {P : Program} {ρ : Operand → Value} {d : Option Tmp} {ty : TypeId} {pos : String} {af : Array Edge} {gd : Option (Nat × Bool)} {W : World} {l : List Ent} {Ψ : Value → List Ent → Prop}
theorem e_append {t e : TypeId} {sz by_ n m c : Nat} {s x : Operand} {v : Value} {A : Option Addr} {xs news : List Value} {le r : List Ent} [ht : SliceT P t e] [hi : RowT P e sz by_]
    (hx : ρ s = v) (hv : Own e sz v n xs le) (hy : ρ x = .slice A m c) (hl : news.length = m * sz) (hrd : Rd W (le ++ r) A news) (h1 : ∀ u ∈ news, u.oneCell' = true) (hb : (n + m) * by_ ≤ 140737488355328) (h63 : n + m ≤ maxLen)
    (h : ∀ v' le', Own e sz v' (n + m) (xs ++ news) le' → (v' = .slice none 0 0 → v = .slice none 0 0 ∧ m = 0) → Ψ v' (le' ++ r)) : Eff P W (le ++ r) ⟨d, .call { callee := .builtin .append, args := #[s, x], argTypes := #[t, t] }, ty, pos, af, gd⟩ ρ Ψ := by
  intro w hw
  obtain ⟨i, z, hi1, hi2, hi3, hi4, hi5, hi6⟩ := rowB_spec hi.h
  have hown := hv.to hw
  have fin : ∀ (v' : Value) (w' : World), (Builtin.append_ #[t, t] ty #[v, .slice A m c]).run P w = .ok v' w' → (∃ le', Own e sz v' (n + m) (xs ++ news) le' ∧ SH W (le' ++ r) w') → (v' = .slice none 0 0 → v = .slice none 0 0 ∧ m = 0) →
      OpW P ⟨d, .call { callee := .builtin .append, args := #[s, x], argTypes := #[t, t] }, ty, pos, af, gd⟩ ρ w fun v w' => ∃ l', SH W l' w' ∧ Ψ v l' := by
    intro v' w' hr ⟨le', ho, hs⟩ hn
    unfold OpW
    simp only [execOp, resolve, Sem.run_bind, Sem.run_pure, Result.andThen_ok, invoke, builtin, List.map_toArray, List.map_cons, List.map_nil, hx, hy, hr]
    exact ⟨_, hs, h v' le' ho hn⟩
  by_cases hm : m = 0
  · subst hm
    have hnil : news = [] := List.eq_nil_of_length_eq_zero (by simpa using hl)
    subst hnil
    have hr : (Builtin.append_ #[t, t] ty #[v, .slice A 0 c]).run P w = .ok v w := by
      cases A with
      | none =>
        rcases hown.2 with ⟨rfl, rfl⟩ | ⟨g, cap, cur, rfl, _, _, hnc, _⟩
        · simp [Builtin.append_, run_underlying ht.h, sizeOf, typeInfo, hi1, Builtin.lenOf, Builtin.firstCells]
        · simp [Builtin.append_, run_underlying ht.h, sizeOf, typeInfo, hi1, Builtin.lenOf, Builtin.firstCells, hnc, storeCells]
      | some a =>
        rcases hown.2 with ⟨rfl, rfl⟩ | ⟨g, cap, cur, rfl, _, _, hnc, _⟩
        · simp [Builtin.append_, run_underlying ht.h, sizeOf, typeInfo, hi1, Builtin.lenOf, Builtin.firstCells, loadCells, loadCellsFrom]
        · simp [Builtin.append_, run_underlying ht.h, sizeOf, typeInfo, hi1, Builtin.lenOf, Builtin.firstCells, hnc, storeCells, loadCells, loadCellsFrom]
    exact fin v w hr ⟨le, by simpa using hv, hw⟩ fun hv => ⟨hv, rfl⟩
  · rcases hrd with rfl | ⟨a, rfl, hc⟩
    · have : m * sz = 0 := by simpa using hl.symm
      rcases Nat.mul_eq_zero.1 this with h0 | h0 <;> omega
    · obtain ⟨v', w', hr, h2, h3, h4, h5⟩ := run_append_own_at (P := P) w W.heap.size t ty e i z sz by_ ht.h hi1 hi2 hi3 hi4 hi5 hi6 v n xs hown a m c news hl (hc w hw) h1 h63 hb hw.below.size
      exact fin v' w' hr (hv.back hw h2 h3 h5) fun hv' => h4.1 hv'
end
end Go.Lg
