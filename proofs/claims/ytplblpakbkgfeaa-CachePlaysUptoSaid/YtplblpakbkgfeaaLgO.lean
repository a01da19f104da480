import Derived.Test.YtplblpakbkgfeaaLgD
set_option linter.unusedVariables false
set_option linter.unusedSimpArgs false
namespace Go.Lg
open Go.RowKit

/-! ### What a block holds -/
/-- The cells cs of element type T; none of them frozen. -/
def isC (T : TypeId) (cs : List Value) : Obj → Prop := fun o => ∃ fz : Nat × Nat, o = .cells cs.toArray T fz ∧ (fz.1 = fz.2 ∨ cs.length ≤ fz.1)
/-- A row of cells that begins with xs; so many in all. -/
def isR (T : TypeId) (tot : Nat) (xs : List Value) : Obj → Prop := fun o => ∃ cur : Array Value, o = .cells cur T (0, 0) ∧ cur.size = tot ∧ cur.toList.take xs.length = xs
def isM (es : Array MapEntry) (clock : Nat) : Obj → Prop := fun o => o = .map es clock
theorem isC_mk (T : TypeId) (cs : Array Value) : isC T cs.toList (.cells cs T) := ⟨(0, 0), rfl, .inl rfl⟩
/-- The cell of that number; what the cells are behind a store. (Both reduce to what is written.) -/
def nth : List Value → Nat → Option Value
  | [], _ => none
  | c :: _, 0 => some c
  | _ :: cs, j + 1 => nth cs j
theorem nth_eq : ∀ (cs : List Value) (j : Nat), nth cs j = cs[j]?
  | [], j => by simp [nth]
  | c :: cs, 0 => rfl
  | c :: cs, j + 1 => by simpa [nth] using nth_eq cs j
def seg (cs : List Value) (o n : Nat) : List Value := (cs.drop o).take n
def spl : List Value → Nat → List Value → List Value
  | cs, _, [] => cs
  | [], _, _ :: _ => []
  | _ :: cs, 0, v :: vs => v :: spl cs 0 vs
  | c :: cs, o + 1, v :: vs => c :: spl cs o (v :: vs)
theorem spl_length : ∀ (cs : List Value) (o : Nat) (vs : List Value), (spl cs o vs).length = cs.length
  | cs, _, [] => by simp [spl]
  | [], _, _ :: _ => by simp [spl]
  | _ :: cs, 0, v :: vs => by simp [spl, spl_length cs 0 vs]
  | c :: cs, o + 1, v :: vs => by simp [spl, spl_length cs o (v :: vs)]
theorem spl_get : ∀ (cs : List Value) (o : Nat) (vs : List Value) (i : Nat), o + vs.length ≤ cs.length → (spl cs o vs)[i]? = if o ≤ i ∧ i < o + vs.length then vs[i - o]? else cs[i]?
  | cs, o, [], i, _ => by rw [if_neg (by simp only [List.length_nil]; omega)]; simp [spl]
  | [], _, v :: vs, _, h => by simp at h
  | c :: cs, 0, v :: vs, i, h => by
    cases i with
    | zero => simp [spl]
    | succ i =>
      simp only [List.length_cons] at h
      simp only [spl, List.getElem?_cons_succ, spl_get cs 0 vs i (by omega), List.length_cons]
      by_cases hi : i < vs.length
      · rw [if_pos (by omega), if_pos (by omega)]; simp
      · rw [if_neg (by omega), if_neg (by omega)]
  | c :: cs, o + 1, v :: vs, i, h => by
    simp only [List.length_cons] at h
    cases i with
    | zero => rw [if_neg (by omega)]; simp [spl]
    | succ i =>
      simp only [spl, List.getElem?_cons_succ, spl_get cs o (v :: vs) i (by simp only [List.length_cons]; omega), List.length_cons]
      by_cases hi : o ≤ i ∧ i < o + (vs.length + 1)
      · rw [if_pos hi, if_pos (by omega)]; congr 1; omega
      · rw [if_neg hi, if_neg (by omega)]
theorem isR_mk (T : TypeId) (cs : Array Value) : isR T cs.size cs.toList (.cells cs T) := ⟨cs, rfl, rfl, List.take_length⟩
theorem isC_of_isR {T : TypeId} {tot : Nat} {xs : List Value} {o : Obj} (h : isR T tot xs o) (hx : xs.length = tot) : isC T xs o := by
  obtain ⟨cur, rfl, hs, ht⟩ := h
  refine ⟨(0, 0), ?_, .inl rfl⟩
  have : cur = xs.toArray := by
    apply Array.ext'
    rw [← ht, List.take_of_length_le (by simp; omega)]
  rw [this]
theorem fz_no {fz : Nat × Nat} {s j : Nat} (h : fz.1 = fz.2 ∨ s ≤ fz.1) (hj : j < s) : (fz.1 ≤ j && j < fz.2) = false := by
  obtain ⟨a, b⟩ := fz
  simp only at h ⊢
  by_cases h1 : a ≤ j <;> by_cases h2 : j < b <;> simp [h1, h2] <;> omega
theorem cell_at {w : World} {b : Nat} {cs : Array Value} {T : TypeId} {fz : Nat × Nat} (h : w.heap[b]? = some (.cells cs T fz)) (j : Nat) : w.cell? ⟨b, j, none⟩ = cs[j]? := cell_of_row w b j cs T fz h
theorem frozen_at {w : World} {b : Nat} {cs : Array Value} {T : TypeId} {fz : Nat × Nat} (h : w.heap[b]? = some (.cells cs T fz)) (hf : fz.1 = fz.2 ∨ cs.size ≤ fz.1) {j : Nat} (hj : j < cs.size) : w.frozen? ⟨b, j, none⟩ = false := by
  simp only [World.frozen?, h]
  exact fz_no hf hj
theorem addr_add (b o j : Nat) : (⟨b, o, none⟩ : Addr).add j = ⟨b, o + j, none⟩ := by unfold Addr.add; split <;> simp_all

/-! ### The world with another block -/
def setB (w : World) (b : Nat) (o : Obj) : World := { w with heap := w.heap.setIfInBounds b o }
theorem setB_ok (w : World) {b : Nat} {o0 : Obj} (h : w.heap[b]? = some o0) (o : Obj) :
    (setB w b o).os = w.os ∧ (setB w b o).tape = w.tape ∧ (setB w b o).output = w.output ∧ (setB w b o).heap.size = w.heap.size ∧ (setB w b o).heap[b]? = some o ∧ ∀ k, k ≠ b → (setB w b o).heap[k]? = w.heap[k]? := by
  have hlt := (Array.getElem?_eq_some_iff.1 h).1
  refine ⟨rfl, rfl, rfl, by simp [setB], by simp [setB, hlt], fun k hk => ?_⟩
  simp only [setB]
  rw [Array.getElem?_setIfInBounds_ne (Ne.symm hk)]
theorem setB_setB (w : World) (b : Nat) (o o' : Obj) : setB (setB w b o) b o' = setB w b o' := by simp [setB]
theorem setB_same (w : World) (b : Nat) (o : Obj) (h : w.heap[b]? = some o) : setB w b o = w := by
  have hlt := (Array.getElem?_eq_some_iff.1 h).1
  have : w.heap.setIfInBounds b o = w.heap := by
    apply Array.ext_getElem?
    intro i
    by_cases hi : b = i
    · subst hi; rw [Array.getElem?_setIfInBounds_self_of_lt hlt, h]
    · rw [Array.getElem?_setIfInBounds_ne hi]
  unfold setB
  rw [this]
theorem setCell_setB {w : World} {b : Nat} {cs : Array Value} {T : TypeId} {fz : Nat × Nat} (h : w.heap[b]? = some (.cells cs T fz)) (j : Nat) (v : Value) : w.setCell ⟨b, j, none⟩ v = setB w b (.cells (cs.setIfInBounds j v) T fz) := by
  have hlt := (Array.getElem?_eq_some_iff.1 h).1
  unfold World.setCell setB
  congr 1
  apply Array.ext_getElem?
  intro i
  by_cases hi : b = i
  · subst hi
    rw [Array.getElem?_modify, if_pos rfl, h, Array.getElem?_setIfInBounds_self_of_lt hlt]
    rfl
  · rw [Array.getElem?_modify, if_neg hi, Array.getElem?_setIfInBounds_ne hi]
def splice (cur : Array Value) : Nat → List Value → Array Value
  | _, [] => cur
  | o, v :: vs => splice (cur.setIfInBounds o v) (o + 1) vs
theorem splice_size : ∀ (vs : List Value) (o : Nat) (cur : Array Value), (splice cur o vs).size = cur.size
  | [], _, _ => rfl
  | v :: vs, o, cur => by rw [splice, splice_size vs]; simp
theorem splice_get : ∀ (vs : List Value) (o : Nat) (cur : Array Value) (i : Nat), o + vs.length ≤ cur.size → (splice cur o vs)[i]? = if o ≤ i ∧ i < o + vs.length then vs[i - o]? else cur[i]?
  | [], o, cur, i, _ => by
    rw [if_neg (by simp only [List.length_nil]; omega)]; rfl
  | v :: vs, o, cur, i, h => by
    simp only [List.length_cons] at h
    rw [splice, splice_get vs (o + 1) _ i (by simp; omega)]
    by_cases h1 : o + 1 ≤ i ∧ i < o + 1 + vs.length
    · rw [if_pos h1, if_pos (by simp; omega)]
      rw [show i - o = (i - (o + 1)) + 1 from by omega, List.getElem?_cons_succ]
    · rw [if_neg h1]
      by_cases h2 : i = o
      · subst h2
        rw [if_pos (by simp), Array.getElem?_setIfInBounds_self_of_lt (by omega)]
        simp
      · rw [if_neg (by simp; omega), Array.getElem?_setIfInBounds_ne (by omega)]
theorem spl_splice (cs : List Value) (o : Nat) (vs : List Value) (h : o + vs.length ≤ cs.length) : splice cs.toArray o vs = (spl cs o vs).toArray := by
  apply Array.ext_getElem?
  intro i
  rw [splice_get vs o cs.toArray i (by simpa using h)]
  simp only [List.getElem?_toArray]
  rw [spl_get cs o vs i h]
theorem run_storeCells (P : Program) {b : Nat} {T : TypeId} {fz : Nat × Nat} : ∀ (vs : List Value) (o i : Nat) (cur : Array Value) (w : World), w.heap[b]? = some (.cells cur T fz) → (fz.1 = fz.2 ∨ cur.size ≤ fz.1) → o + i + vs.length ≤ cur.size →
    (∀ v ∈ vs, v.oneCell' = true) → (storeCells ⟨b, o, none⟩ vs i).run P w = .ok () (setB w b (.cells (splice cur (o + i) vs) T fz))
  | [], o, i, cur, w, h, _, _, _ => by simp [storeCells, splice, setB_same w b _ h]
  | v :: vs, o, i, cur, w, h, hf, hl, h1 => by
    simp only [List.length_cons] at hl
    have hc : w.cell? ⟨b, o + i, none⟩ = some (cur[o + i]'(by omega)) := by rw [cell_at h]; exact Array.getElem?_eq_getElem _
    have hz := frozen_at h hf (j := o + i) (by omega)
    have hv : v.oneCell' = true := h1 v (List.mem_cons_self ..)
    rw [storeCells, Sem.run_bind, addr_add, run_store P w _ v .plain hv]
    simp only [stored, hc, hz, Bool.false_eq_true, if_false, Result.andThen_ok]
    rw [setCell_setB h]
    have hb' := (setB_ok w h (.cells (cur.setIfInBounds (o + i) v) T fz)).2.2.2.2.1
    rw [run_storeCells P vs o (i + 1) (cur.setIfInBounds (o + i) v) _ hb' (by simpa using hf) (by simp; omega) (fun u hu => h1 u (List.mem_cons_of_mem _ hu)), setB_setB]
    rfl

/-! ### Types, as closed facts -/
def aggB (P : Program) (t : TypeId) : Option Bool :=
  match P.underlying t with
  | some (.struct _) | some (.array _ _) => some true
  | some _ => some false
  | none => none
def szB (P : Program) (t : TypeId) : Option Nat := (P.info? t).map (·.size)
/-- A field's address. -/
def fldB (P : Program) (s : TypeId) (i : Nat) : Option Nat :=
  match P.underlying s with
  | some (.struct fs) => match fs[i]? with
    | some f => (match P.info? f.type with | some inf => if inf.size = 0 then none else some f.offset | none => none)
    | none => none
  | _ => none
/-! ### What the table of types says, found by its number -/
class Fld (P : Program) (s i : Nat) (k : outParam Nat) : Prop where
  h : fldB P s i = some k
class Agg (P : Program) (t : Nat) (r : outParam Bool) : Prop where
  h : aggB P t = some r
class Sz (P : Program) (t : Nat) (n : outParam Nat) : Prop where
  h : szB P t = some n
class SliceT (P : Program) (t : Nat) (e : outParam Nat) : Prop where
  h : P.underlying t = some (.slice e)
class PtrT (P : Program) (t : Nat) (e : outParam Nat) : Prop where
  h : P.underlying t = some (.pointer e)
class ArrT (P : Program) (t : Nat) (n e : outParam Nat) : Prop where
  h : P.underlying t = some (.array n e)
class IntT (P : Program) (t : Nat) (k : outParam IntKind) : Prop where
  h : P.underlying t = some (.int k)
class MapT (P : Program) (t : Nat) (k e : outParam Nat) : Prop where
  h : P.underlying t = some (.map k e)
class StrT (P : Program) (t : Nat) : Prop where
  h : P.underlying t = some .string
class BoolT (P : Program) (t : Nat) : Prop where
  h : P.underlying t = some .bool
theorem run_isAgg {P : Program} {t : TypeId} {r : Bool} (h : aggB P t = some r) (w : World) : (isAgg t).run P w = .ok r w := by
  unfold aggB at h
  unfold isAgg
  cases hu : P.underlying t with
  | none => rw [hu] at h; cases h
  | some d =>
    rw [hu] at h
    rw [Sem.run_bind, run_underlying hu w]
    cases d <;> simp_all
theorem run_sizeOf {P : Program} {t : TypeId} {n : Nat} (h : szB P t = some n) (w : World) : (sizeOf t).run P w = .ok n w := by
  unfold szB at h
  obtain ⟨i, hi, rfl⟩ := Option.map_eq_some_iff.1 h
  simp [sizeOf, typeInfo, hi]

section
variable {P : Program} {ρ : Operand → Value} {d : Option Tmp} {ty : TypeId} {pos : String} {af : Array Edge} {gd : Option (Nat × Bool)}
/-! ### Operations that neither read nor write -/
theorem y_move {x : Operand} {v : Value} (h : ρ x = v) : Yld P ⟨d, .move x, ty, pos, af, gd⟩ ρ v := fun w => by simp [execOp, h]
theorem y_assign {x : Operand} {v : Value} (h : ρ x = v) : Yld P ⟨d, .assign x, ty, pos, af, gd⟩ ρ v := fun w => by simp [execOp, h]
theorem y_pick_t {c a b : Operand} {v : Value} (hc : ρ c = .bool true) (h : ρ a = v) : Yld P ⟨d, .pick c a b, ty, pos, af, gd⟩ ρ v := fun w => by simp [execOp, hc, h, asBool]
theorem y_pick_f {c a b : Operand} {v : Value} (hc : ρ c = .bool false) (h : ρ b = v) : Yld P ⟨d, .pick c a b, ty, pos, af, gd⟩ ρ v := fun w => by simp [execOp, hc, h, asBool]
theorem y_pick {c a b : Operand} {r x y : Bool} (hc : ρ c = .bool r) (ha : ρ a = .bool x) (hb : ρ b = .bool y) : Yld P ⟨d, .pick c a b, ty, pos, af, gd⟩ ρ (.bool (bif r then x else y)) := fun w => by
  cases r <;> simp [execOp, hc, ha, hb, asBool]
theorem y_extract {t : Operand} {i : Nat} {vs : Array Value} {v : Value} (h : ρ t = .tuple vs) (hv : vs[i]? = some v) : Yld P ⟨d, .extract t i, ty, pos, af, gd⟩ ρ v := fun w => by simp [execOp, h, Instr.extract, hv]
theorem y_not {t : TypeId} {x : Operand} {b : Bool} (h : ρ x = .bool b) : Yld P ⟨d, .unOp .not t x, ty, pos, af, gd⟩ ρ (.bool !b) := fun w => by simp [execOp, h, Op.unary]
theorem y_makeFunc {fn : Fn} {first captured : Array Operand} {v : Value} (h : Value.func fn (first.map ρ) (captured.map ρ) = v) : Yld P ⟨d, .makeFunc fn first captured, ty, pos, af, gd⟩ ρ v := fun w => by simp [execOp, Instr.makeFunc, h]
theorem y_nilCheck {x : Operand} {a : Addr} (h : ρ x = .pointer (some a)) : Yld P ⟨d, .nilCheck x, ty, pos, af, gd⟩ ρ (.pointer (some a)) := fun w => by simp [execOp, h]
theorem run_bin {op : BinOp} {t yt : TypeId} {x y : Operand} {v : Value} (w : World) (hg : (eqGuard op t x y (ρ x) (ρ y)).run P w = .ok () w) (h : (binOp op t (ρ x) (ρ y)).run P w = .ok v w) :
    (execOp ρ ⟨d, .binOp op t x y yt, ty, pos, af, gd⟩).run P w = .ok (.value v) w := by
  simp [execOp, hg, h]
theorem guard_plain {op : BinOp} {t : TypeId} {x y : Operand} {a b : Value} (w : World) (h : (match a, b with | .nilIface, .nilIface => false | .agg _, .agg _ => false | _, _ => true) = true) : (eqGuard op t x y a b).run P w = .ok () w := by
  cases op <;> (first | rfl | (cases a <;> cases b <;> first | rfl | cases h))
theorem y_bin {op : BinOp} {t yt : TypeId} {x y : Operand} {k : IntKind} {a b : Int} {v : Value} (hx : ρ x = .int k a) (hy : ρ y = .int k b) (h : ∀ w, (binOp op t (.int k a) (.int k b)).run P w = .ok v w) :
    Yld P ⟨d, .binOp op t x y yt, ty, pos, af, gd⟩ ρ v := fun w => run_bin w (by rw [hx, hy]; exact guard_plain w rfl) (by rw [hx, hy]; exact h w)
/-- + - * of one kind. -/
theorem y_add {t yt : TypeId} {x y : Operand} {k : IntKind} {a b c : Int} (hx : ρ x = .int k a) (hy : ρ y = .int k b) (hc : k.wrap (a + b) = c) : Yld P ⟨d, .binOp .add t x y yt, ty, pos, af, gd⟩ ρ (.int k c) :=
  y_bin hx hy fun w => by subst hc; simp [binOp, Op.intArith]
theorem y_sub {t yt : TypeId} {x y : Operand} {k : IntKind} {a b c : Int} (hx : ρ x = .int k a) (hy : ρ y = .int k b) (hc : k.wrap (a - b) = c) : Yld P ⟨d, .binOp .sub t x y yt, ty, pos, af, gd⟩ ρ (.int k c) :=
  y_bin hx hy fun w => by subst hc; simp [binOp, Op.intArith]
theorem y_mul {t yt : TypeId} {x y : Operand} {k : IntKind} {a b c : Int} (hx : ρ x = .int k a) (hy : ρ y = .int k b) (hc : k.wrap (a * b) = c) : Yld P ⟨d, .binOp .mul t x y yt, ty, pos, af, gd⟩ ρ (.int k c) :=
  y_bin hx hy fun w => by subst hc; simp [binOp, Op.intArith]
theorem y_lss {t yt : TypeId} {x y : Operand} {k : IntKind} {a b : Int} {r : Bool} (hx : ρ x = .int k a) (hy : ρ y = .int k b) (hr : decide (a < b) = r) : Yld P ⟨d, .binOp .lss t x y yt, ty, pos, af, gd⟩ ρ (.bool r) :=
  y_bin hx hy fun w => by subst hr; simp [binOp, Op.intCmp]
theorem y_leq {t yt : TypeId} {x y : Operand} {k : IntKind} {a b : Int} {r : Bool} (hx : ρ x = .int k a) (hy : ρ y = .int k b) (hr : decide (a ≤ b) = r) : Yld P ⟨d, .binOp .leq t x y yt, ty, pos, af, gd⟩ ρ (.bool r) :=
  y_bin hx hy fun w => by subst hr; simp [binOp, Op.intCmp]
theorem y_gtr {t yt : TypeId} {x y : Operand} {k : IntKind} {a b : Int} {r : Bool} (hx : ρ x = .int k a) (hy : ρ y = .int k b) (hr : decide (b < a) = r) : Yld P ⟨d, .binOp .gtr t x y yt, ty, pos, af, gd⟩ ρ (.bool r) :=
  y_bin hx hy fun w => by subst hr; simp [binOp, Op.intCmp]
theorem y_geq {t yt : TypeId} {x y : Operand} {k : IntKind} {a b : Int} {r : Bool} (hx : ρ x = .int k a) (hy : ρ y = .int k b) (hr : decide (b ≤ a) = r) : Yld P ⟨d, .binOp .geq t x y yt, ty, pos, af, gd⟩ ρ (.bool r) :=
  y_bin hx hy fun w => by subst hr; simp [binOp, Op.intCmp]
theorem y_eql {t yt : TypeId} {x y : Operand} {k : IntKind} {a b : Int} {r : Bool} (hx : ρ x = .int k a) (hy : ρ y = .int k b) (hr : decide (a = b) = r) : Yld P ⟨d, .binOp .eql t x y yt, ty, pos, af, gd⟩ ρ (.bool r) :=
  y_bin hx hy fun w => by
    have : (a == b) = r := by rw [← hr]; by_cases h : a = b <;> simp [h]
    simp [binOp, Op.intCmp, this]
theorem y_neq {t yt : TypeId} {x y : Operand} {k : IntKind} {a b : Int} {r : Bool} (hx : ρ x = .int k a) (hy : ρ y = .int k b) (hr : decide (a = b) = !r) : Yld P ⟨d, .binOp .neq t x y yt, ty, pos, af, gd⟩ ρ (.bool r) :=
  y_bin hx hy fun w => by
    have : (a != b) = r := by
      have h2 : r = !decide (a = b) := by rw [hr]; simp
      rw [h2]; by_cases h : a = b <;> simp [h]
    simp [binOp, Op.intCmp, this]
theorem y_bits {op : BinOp} {t yt : TypeId} {x y : Operand} {k : IntKind} {a b : Int} (hx : ρ x = .int k a) (hy : ρ y = .int k b) (ho : op = .and ∨ op = .or ∨ op = .xor) : Yld P ⟨d, .binOp op t x y yt, ty, pos, af, gd⟩ ρ (.int k (bits op k a b)) :=
  y_bin hx hy fun w => by
    rcases ho with rfl | rfl | rfl <;> simp [binOp, Op.intBits, bits]
theorem y_shl {t yt : TypeId} {x y : Operand} {k yk : IntKind} {a b c : Int} (hx : ρ x = .int k a) (hy : ρ y = .int yk b) (hb : 0 ≤ b) (hc : k.wrap (a * 2 ^ (min b.toNat k.bits)) = c) : Yld P ⟨d, .binOp .shl t x y yt, ty, pos, af, gd⟩ ρ (.int k c) := fun w => by
  subst hc
  refine run_bin w (by rw [hx, hy]; exact guard_plain w rfl) ?_
  rw [hx, hy]
  simp [binOp, Op.shift, show ¬ b < 0 from by omega]
theorem y_shr {t yt : TypeId} {x y : Operand} {k yk : IntKind} {a b c : Int} (hx : ρ x = .int k a) (hy : ρ y = .int yk b) (hb : 0 ≤ b) (hc : a.fdiv (2 ^ (min b.toNat k.bits)) = c) : Yld P ⟨d, .binOp .shr t x y yt, ty, pos, af, gd⟩ ρ (.int k c) := fun w => by
  subst hc
  refine run_bin w (by rw [hx, hy]; exact guard_plain w rfl) ?_
  rw [hx, hy]
  simp [binOp, Op.shift, show ¬ b < 0 from by omega]
/-- Bools. -/
theorem y_eqlB {t yt : TypeId} {x y : Operand} {a b : Bool} [ht : BoolT P t] (hx : ρ x = .bool a) (hy : ρ y = .bool b) : Yld P ⟨d, .binOp .eql t x y yt, ty, pos, af, gd⟩ ρ (.bool (a == b)) := fun w => by
  refine run_bin w (by rw [hx, hy]; exact guard_plain w rfl) ?_
  rw [hx, hy]
  have h : ∀ q, (Op.equalIn (q + 1) t (.bool a) (.bool b)).run P w = .ok (a == b) w := fun q => by simp [Op.equalIn, run_underlying ht.h]
  simp only [binOp]
  simp [Op.equal, Op.maxDepth, h 9999]
theorem y_neqB {t yt : TypeId} {x y : Operand} {a b : Bool} [ht : BoolT P t] (hx : ρ x = .bool a) (hy : ρ y = .bool b) : Yld P ⟨d, .binOp .neq t x y yt, ty, pos, af, gd⟩ ρ (.bool (!(a == b))) := fun w => by
  refine run_bin w (by rw [hx, hy]; exact guard_plain w rfl) ?_
  rw [hx, hy]
  have h : ∀ q, (Op.equalIn (q + 1) t (.bool a) (.bool b)).run P w = .ok (a == b) w := fun q => by simp [Op.equalIn, run_underlying ht.h]
  simp only [binOp]
  simp [Op.equal, Op.maxDepth, h 9999]
/-- Pointers against nil. -/
theorem y_eqlNil {t e yt : TypeId} {x y : Operand} {a : Option Addr} {r : Bool} [ht : PtrT P t e] (hx : ρ x = .pointer a) (hy : ρ y = .pointer none) (hr : a.isNone = r) : Yld P ⟨d, .binOp .eql t x y yt, ty, pos, af, gd⟩ ρ (.bool r) := fun w => by
  subst hr
  refine run_bin w (by rw [hx, hy]; exact guard_plain w rfl) ?_
  rw [hx, hy]
  have h : ∀ q, (Op.equalIn (q + 1) t (.pointer a) (.pointer none)).run P w = .ok a.isNone w := fun q => by cases a <;> simp [Op.equalIn, run_underlying ht.h]
  have h' := h 9999
  cases a <;> (simp only [binOp]; simp only [Op.equal, Op.maxDepth, Sem.run_bind, h', Result.andThen_ok]; rfl)
theorem y_neqNil {t e yt : TypeId} {x y : Operand} {a : Option Addr} {r : Bool} [ht : PtrT P t e] (hx : ρ x = .pointer a) (hy : ρ y = .pointer none) (hr : (!a.isNone) = r) : Yld P ⟨d, .binOp .neq t x y yt, ty, pos, af, gd⟩ ρ (.bool r) := fun w => by
  subst hr
  refine run_bin w (by rw [hx, hy]; exact guard_plain w rfl) ?_
  rw [hx, hy]
  have h : ∀ q, (Op.equalIn (q + 1) t (.pointer a) (.pointer none)).run P w = .ok a.isNone w := fun q => by cases a <;> simp [Op.equalIn, run_underlying ht.h]
  have h' := h 9999
  cases a <;> (simp only [binOp]; simp only [Op.equal, Op.maxDepth, Sem.run_bind, h', Result.andThen_ok]; rfl)
/-- Slices against nil. -/
theorem y_eqlSNil {t e yt : TypeId} {x y : Operand} {a : Option Addr} {n c n' c' : Nat} {r : Bool} [ht : SliceT P t e] (hx : ρ x = .slice a n c) (hy : ρ y = .slice none n' c') (hr : a.isNone = r) : Yld P ⟨d, .binOp .eql t x y yt, ty, pos, af, gd⟩ ρ (.bool r) := fun w => by
  subst hr
  refine run_bin w (by rw [hx, hy]; exact guard_plain w rfl) ?_
  rw [hx, hy]
  exact Lib.run_eql_slice_nil (P := P) w t e a n c n' c' ht.h
/-- Strings. -/
theorem y_eqlS {t yt : TypeId} {x y : Operand} {a b : ByteArray} {r : Bool} (hx : ρ x = .string a) (hy : ρ y = .string b) (hr : (a.toList == b.toList) = r) : Yld P ⟨d, .binOp .eql t x y yt, ty, pos, af, gd⟩ ρ (.bool r) := fun w => by
  subst hr
  refine run_bin w (by rw [hx, hy]; exact guard_plain w rfl) ?_
  rw [hx, hy]
  simp [binOp, Op.stringOp]
theorem y_neqS {t yt : TypeId} {x y : Operand} {a b : ByteArray} {r : Bool} (hx : ρ x = .string a) (hy : ρ y = .string b) (hr : (!(a.toList == b.toList)) = r) : Yld P ⟨d, .binOp .neq t x y yt, ty, pos, af, gd⟩ ρ (.bool r) := fun w => by
  subst hr
  refine run_bin w (by rw [hx, hy]; exact guard_plain w rfl) ?_
  rw [hx, hy]
  simp [binOp, Op.stringOp]
theorem y_fieldAddr {s : TypeId} {x : Operand} {i b o k : Nat} [hf : Fld P s i k] (h : ρ x = .pointer (some ⟨b, o, none⟩)) : Yld P ⟨d, .fieldAddr s x i, ty, pos, af, gd⟩ ρ (.pointer (some ⟨b, o + k, none⟩)) := fun w => by
  have hf := hf.h
  unfold fldB at hf
  cases hu : P.underlying s with
  | none => rw [hu] at hf; cases hf
  | some de =>
    cases de <;> rw [hu] at hf <;> try cases hf
    rename_i fs
    simp only at hf
    cases hfi : fs[i]? with
    | none => rw [hfi] at hf; cases hf
    | some f =>
      rw [hfi] at hf
      simp only at hf
      cases hinf : P.info? f.type with
      | none => rw [hinf] at hf; cases hf
      | some inf =>
        rw [hinf] at hf
        simp only at hf
        split at hf
        · cases hf
        · rename_i hne
          obtain rfl := Option.some.inj hf
          simp [execOp, h, Instr.fieldAt, run_underlying hu, hfi, Instr.sureAddr, fieldPlace, sizeOf, typeInfo, hinf, hne, addr_add]
/-- An element's address. -/
theorem y_index {t e : TypeId} {x i : Operand} {b o len cap sz j : Nat} {k : IntKind} [ht : SliceT P t e] [hs : Sz P e sz] (hx : ρ x = .slice (some ⟨b, o, none⟩) len cap) (hi : ρ i = .int k (j : Int)) (hj : j < len) :
    Yld P ⟨d, .indexAddr t x i, ty, pos, af, gd⟩ ρ (.pointer (some ⟨b, o + j * sz, none⟩)) := fun w => by
  have h0 : (0 : Int) ≤ (j : Int) ∧ (j : Int) < (len : Int) := ⟨by omega, by omega⟩
  simp [execOp, hx, hi, Instr.indexAt, asIntOf, run_underlying ht.h, run_sizeOf hs.h, addr_add, hj]
theorem y_indexA {t e : TypeId} {x i : Operand} {b o len sz j : Nat} {k : IntKind} [ht : ArrT P t len e] [hs : Sz P e sz] (hx : ρ x = .pointer (some ⟨b, o, none⟩)) (hi : ρ i = .int k (j : Int)) (hj : j < len) :
    Yld P ⟨d, .indexAddr t x i, ty, pos, af, gd⟩ ρ (.pointer (some ⟨b, o + j * sz, none⟩)) := fun w => by
  simp [execOp, hx, hi, Instr.indexAt, asIntOf, run_underlying ht.h, run_sizeOf hs.h, addr_add, hj, Instr.sureAddr]
/-- len of a slice, of a string. -/
theorem y_len {t e : TypeId} {x : Operand} {a : Option Addr} {len cap : Nat} [ht : SliceT P t e] (hx : ρ x = .slice a len cap) : Yld P ⟨d, .call { callee := .builtin .len, args := #[x], argTypes := #[t] }, ty, pos, af, gd⟩ ρ (.int .i64 (len : Int)) := fun w => by
  simp [execOp, resolve, invoke, builtin, Builtin.len_, hx, run_underlying ht.h, goInt]
theorem y_lenS {t : TypeId} {x : Operand} {s : ByteArray} [ht : StrT P t] (hx : ρ x = .string s) : Yld P ⟨d, .call { callee := .builtin .len, args := #[x], argTypes := #[t] }, ty, pos, af, gd⟩ ρ (.int .i64 (s.size : Int)) := fun w => by
  simp [execOp, resolve, invoke, builtin, Builtin.len_, hx, run_underlying ht.h, goInt]
theorem y_min {t t' : TypeId} {x y : Operand} {k : IntKind} {a b c : Int} (hx : ρ x = .int k a) (hy : ρ y = .int k b) (hc : (if b < a then b else a) = c) : Yld P ⟨d, .call { callee := .builtin .min, args := #[x, y], argTypes := #[t, t'] }, ty, pos, af, gd⟩ ρ (.int k c) := fun w => by
  subst hc
  simp [execOp, resolve, invoke, builtin, Builtin.min_, hx, hy, Builtin.min2, List.foldlM]
theorem y_conv {s t : TypeId} {x : Operand} {k k' : IntKind} {a c : Int} {k0 : IntKind} [hs : IntT P s k0] [ht : IntT P t k'] (hx : ρ x = .int k a) (hc : k'.wrap a = c) : Yld P ⟨d, .convert s t x, ty, pos, af, gd⟩ ρ (.int k' c) := fun w => by
  subst hc
  simp [execOp, hx, convert, run_underlying hs.h, run_underlying ht.h, Conv.intToInt]
theorem y_build {t : TypeId} {parts : Array (Nat × Operand)} {cells : Array Value} (h : P.built t (parts.toList.map fun x => (x.1, ρ x.2)) = some cells) : Yld P ⟨d, .build t parts, ty, pos, af, gd⟩ ρ (.agg cells) := fun w => by
  have := run_build (P := P) w t (parts.map fun x => (x.1, ρ x.2)) cells (by simpa using h)
  simp [execOp, this]
/-! ### Slices of slices -/
theorem y_slice {t e : TypeId} {x : Operand} {lo hi : Option Operand} {b o len cap sz l h : Nat} [ht : SliceT P t e] [hs : Sz P e sz] (hx : ρ x = .slice (some ⟨b, o, none⟩) len cap)
    (hlo : match lo with | none => l = 0 | some y => ∃ k, ρ y = .int k (l : Int)) (hhi : match hi with | none => h = len | some y => ∃ k, ρ y = .int k (h : Int)) (hlh : l ≤ h) (hhc : h ≤ cap) :
    Yld P ⟨d, .slice t x lo hi none, ty, pos, af, gd⟩ ρ (.slice (if cap = l then some ⟨b, o, none⟩ else some ⟨b, o + l * sz, none⟩) (h - l) (cap - l)) := fun w => by
  have e1 : (Instr.sliceBounds true len cap (lo.map ρ) (hi.map ρ) none).run P w = .ok (l, h, cap) w := by
    cases lo with
    | none =>
      subst hlo
      cases hi with
      | none => subst hhi; simp [Instr.sliceBounds]
      | some y => obtain ⟨k, hk⟩ := hhi; simp [Instr.sliceBounds, Instr.sliceBound, hk, asIntOf, hhc]
    | some z =>
      obtain ⟨k', hk'⟩ := hlo
      cases hi with
      | none => subst hhi; simp [Instr.sliceBounds, Instr.sliceBound, hk', asIntOf, hlh]
      | some y => obtain ⟨k, hk⟩ := hhi; simp [Instr.sliceBounds, Instr.sliceBound, hk, hk', asIntOf, hhc, hlh]
  have e2 : (Instr.sliceAt t (.slice (some ⟨b, o, none⟩) len cap) (lo.map ρ) (hi.map ρ) none).run P w = .ok (.slice (if cap = l then some ⟨b, o, none⟩ else some ⟨b, o + l * sz, none⟩) (h - l) (cap - l)) w := by
    simp only [Instr.sliceAt, Sem.run_bind, run_underlying ht.h, Result.andThen_ok, Instr.slice, e1, run_sizeOf hs.h]
    simp [addr_add]
  simp [execOp, hx, e2]
theorem y_sliceNil {t e : TypeId} {x : Operand} {lo hi : Option Operand} {sz : Nat} [ht : SliceT P t e] [hs : Sz P e sz] (hx : ρ x = .slice none 0 0)
    (hlo : match lo with | none => True | some y => ∃ k, ρ y = .int k 0) (hhi : match hi with | none => True | some y => ∃ k, ρ y = .int k 0) :
    Yld P ⟨d, .slice t x lo hi none, ty, pos, af, gd⟩ ρ (.slice none 0 0) := fun w => by
  have e1 : (Instr.sliceBounds true 0 0 (lo.map ρ) (hi.map ρ) none).run P w = .ok (0, 0, 0) w := by
    cases lo with
    | none =>
      cases hi with
      | none => simp [Instr.sliceBounds]
      | some y => obtain ⟨k, hk⟩ := hhi; simp [Instr.sliceBounds, Instr.sliceBound, hk, asIntOf]
    | some z =>
      obtain ⟨k', hk'⟩ := hlo
      cases hi with
      | none => simp [Instr.sliceBounds, Instr.sliceBound, hk', asIntOf]
      | some y => obtain ⟨k, hk⟩ := hhi; simp [Instr.sliceBounds, Instr.sliceBound, hk, hk', asIntOf]
  have e2 : (Instr.sliceAt t (.slice none 0 0) (lo.map ρ) (hi.map ρ) none).run P w = .ok (.slice none 0 0) w := by
    simp only [Instr.sliceAt, Sem.run_bind, run_underlying ht.h, Result.andThen_ok, Instr.slice, e1, run_sizeOf hs.h]
    simp
  simp [execOp, hx, e2]
end
end Go.Lg
