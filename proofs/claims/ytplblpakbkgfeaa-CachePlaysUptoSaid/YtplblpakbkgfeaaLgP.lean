import Derived.Test.YtplblpakbkgfeaaLgF
import Derived.Maps.RangeRun
set_option linter.unusedVariables false
set_option linter.unusedSimpArgs false
namespace Go.Lg
open Go.RowKit
variable {P : Program} {ρ : Operand → Value} {d : Option Tmp} {ty : TypeId} {pos : String} {af : Array Edge} {gd : Option (Nat × Bool)} {W : World} {l : List Ent} {Ψ : Value → List Ent → Prop}
/-! ### Maps whose keys are structs of two strings -/
/-- A key: two strings. -/
def key (a b : ByteArray) : Value := .agg #[.string a, .string b]
/-- An entry: its key, its value's cells, its stamp. -/
structure KE where
  a : ByteArray
  b : ByteArray
  v : Value
  t : Nat
def KE.e (x : KE) : MapEntry := ⟨key x.a x.b, x.v, x.t⟩
/-- A map's object: its entries, whole. -/
structure Mp where
  es : List KE
  clock : Nat
def Mp.ok (m : Mp) : Prop := (∀ e ∈ m.es, e.t < m.clock) ∧ (m.es.map (·.t)).Nodup
def isMp (m : Mp) : Obj → Prop := fun o => o = .map (m.es.map KE.e).toArray m.clock
/-- Where a key stands. -/
def KE.is (a b : ByteArray) (x : KE) : Bool := a == x.a && b == x.b
def kfind (a b : ByteArray) : List KE → Nat → Option (Nat × Value)
  | [], _ => none
  | x :: xs, i => if x.is a b then some (i, x.v) else kfind a b xs (i + 1)
/-- An iterator over the map at bm. -/
def isIt (bm since : Nat) (seen : List Nat) (last : Nat) : Obj → Prop := fun o => o = .mapIter (some bm) since seen.toArray last
theorem e_makeMap {t : TypeId} (h : ∀ b, Ψ (.map (some b)) ((b, isMp ⟨[], 0⟩) :: l)) : Eff P W l ⟨d, .makeMap t none, ty, pos, af, gd⟩ ρ Ψ :=
  e_new (ob := .map #[] 0) (p := isMp ⟨[], 0⟩) (v := fun b => .map (some b)) (fun w => by simp [execOp, Instr.makeMap, newObj, Sem.run]) rfl h
class KeyT (P : Program) (kt : Nat) : Prop where
  h : ∃ f1 f2 : Field, P.underlying kt = some (.struct #[f1, f2]) ∧ f1.offset = 0 ∧ f2.offset = 1 ∧ f1.name ≠ "_" ∧ f2.name ≠ "_" ∧ P.underlying f1.type = some .string ∧ P.underlying f2.type = some .string ∧
    aggB P f1.type = some false ∧ aggB P f2.type = some false ∧ P.stoodInHeld kt = false
theorem run_part {t : TypeId} {w : World} {cs : Array Value} {o : Nat} {v : Value} (ha : aggB P t = some false) (hv : cs[o]? = some v) : (part t cs o).run P w = .ok v w := by
  simp [part, run_isAgg ha, hv]
theorem run_eqKey2 {kt : TypeId} [hk : KeyT P kt] (a b c e : ByteArray) (q : Nat) (w : World) : (Op.equalIn (q + 2) kt (key a b) (key c e)).run P w = .ok (a == c && b == e) w := by
  obtain ⟨f1, f2, h1, h2, h3, h4, h5, h6, h7, h8, h9, h10⟩ := hk.h
  have e1 : ∀ w, (Op.equalIn (q + 1) f1.type (.string a) (.string c)).run P w = .ok (a == c) w := fun w => by simp [Op.equalIn, run_underlying h6]
  have e2 : ∀ w, (Op.equalIn (q + 1) f2.type (.string b) (.string e)).run P w = .ok (b == e) w := fun w => by simp [Op.equalIn, run_underlying h7]
  have p1 : ∀ (x y : ByteArray) w, (part f1.type #[.string x, .string y] f1.offset).run P w = .ok (.string x) w := fun x y w => run_part h8 (by rw [h2]; rfl)
  have p2 : ∀ (x y : ByteArray) w, (part f2.type #[.string x, .string y] f2.offset).run P w = .ok (.string y) w := fun x y w => run_part h9 (by rw [h3]; rfl)
  unfold key
  rw [Op.equalIn]
  simp only [Sem.run_bind, run_underlying h1, Result.andThen_ok, run_program, h10]
  cases h : a == c
  · simp [p1, p2, h4, h5, e1, e2, h]
  · cases h' : b == e <;> simp [p1, p2, h4, h5, e1, e2, h, h']
theorem run_eqKey {kt : TypeId} [hk : KeyT P kt] (a b c e : ByteArray) (w : World) : (Op.equal kt (key a b) (key c e)).run P w = .ok (a == c && b == e) w := run_eqKey2 a b c e 9998 w
theorem run_checkKey2 {kt : TypeId} [hk : KeyT P kt] (em : Bool) (a b : ByteArray) (q : Nat) (w : World) : (Instr.checkKey em (q + 2) kt (key a b)).run P w = .ok () w := by
  obtain ⟨f1, f2, h1, h2, h3, h4, h5, h6, h7, h8, h9, h10⟩ := hk.h
  have p1 : ∀ w, (part f1.type #[.string a, .string b] f1.offset).run P w = .ok (.string a) w := fun w => run_part h8 (by rw [h2]; rfl)
  have p2 : ∀ w, (part f2.type #[.string a, .string b] f2.offset).run P w = .ok (.string b) w := fun w => run_part h9 (by rw [h3]; rfl)
  simp [Instr.checkKey, run_underlying h1, run_underlying h6, run_underlying h7, key, p1, p2, h4, h5]
theorem run_checkKey' {kt : TypeId} [hk : KeyT P kt] (em : Bool) (a b : ByteArray) (w : World) : (Instr.checkKey em 10000 kt (key a b)).run P w = .ok () w := run_checkKey2 em a b 9998 w
theorem run_findAsking {kt : TypeId} [hk : KeyT P kt] (a b : ByteArray) (w : World) : ∀ (xs : List KE) (i : Nat), (Instr.findAsking kt (key a b) (xs.map KE.e) i).run P w = .ok (kfind a b xs i) w
  | [], i => by simp [Instr.findAsking, kfind]
  | x :: xs, i => by
    have he : (Op.equal kt (key a b) x.e.key).run P w = .ok (x.is a b) w := run_eqKey a b x.a x.b w
    simp only [List.map_cons, Instr.findAsking, Sem.run_bind, he, Result.andThen_ok, kfind]
    cases h : x.is a b
    · simp only [Bool.false_eq_true, if_false]
      exact run_findAsking a b w xs (i + 1)
    · simp [KE.e]
theorem run_findKey' {kt : TypeId} [hk : KeyT P kt] (a b : ByteArray) (w : World) (xs : List KE) : (Instr.findKey kt (key a b) (xs.map KE.e)).run P w = .ok (kfind a b xs 0) w := by
  obtain ⟨f1, f2, h1, _⟩ := hk.h
  simp only [Instr.findKey, Sem.run_bind, run_underlying h1, Result.andThen_ok]
  cases xs with
  | nil => simp [Instr.findNow, kfind]
  | cons x xs =>
    have : Instr.findNow (.struct #[f1, f2]) (key a b) ((x :: xs).map KE.e) 0 = none := by
      simp [Instr.findNow, Instr.sameNow, key, KE.e]
    rw [this]
    exact run_findAsking a b w (x :: xs) 0
/-- v, ok := m[k]; the zero value where there is none. -/
theorem r_lookup {t k e : TypeId} {x y : Operand} {b0 : Nat} {m : Mp} {a b : ByteArray} {z : Value} [ht : MapT P t k e] [hk : KeyT P k] (hz : ∀ w, (zeroValue e).run P w = .ok z w) (hx : ρ x = .map (some b0)) (hy : ρ y = key a b) :
    YldIf P (At b0 (isMp m)) ⟨d, .lookup t x y true, ty, pos, af, gd⟩ ρ (match kfind a b m.es 0 with | some (_, v) => .tuple #[v, .bool true] | none => .tuple #[z, .bool false]) := by
  rintro w ⟨_, hb, rfl⟩
  have h1 : (Instr.lookup t (.map (some b0)) (key a b) true).run P w = .ok (match kfind a b m.es 0 with | some (_, v) => .tuple #[v, .bool true] | none => .tuple #[z, .bool false]) w := by
    simp only [Instr.lookup, Sem.run_bind, run_underlying ht.h, Result.andThen_ok, MapKept.run_getObj_map hb, Sem.run_pure, run_checkKey', run_findKey']
    cases kfind a b m.es 0 with
    | none => simp [hz]
    | some r => simp
  simp only [execOp, hx, hy, Sem.run_bind, h1, Result.andThen_ok, Sem.run_pure]
theorem sameBits_key (a b c e : ByteArray) (h : (a == c && b == e) = true) (n : Nat) : Instr.sameBits (n + 1) (key c e) (key a b) = true := by
  have h1 : a = c := by simp only [Bool.and_eq_true] at h; exact (MapKept.bytes_beq _ _).1 h.1
  have h2 : b = e := by simp only [Bool.and_eq_true] at h; exact (MapKept.bytes_beq _ _).1 h.2
  subst h1; subst h2
  have r : ∀ x : ByteArray, (x == x) = true := fun x => (MapKept.bytes_beq _ _).2 rfl
  cases n <;> simp [Instr.sameBits, key, r]
theorem kfind_spec (a b : ByteArray) : ∀ (xs : List KE) (i j : Nat) (v : Value), kfind a b xs i = some (j, v) → ∃ k x, j = i + k ∧ xs[k]? = some x ∧ x.is a b = true ∧ x.v = v
  | [], _, _, _, h => by simp [kfind] at h
  | x :: xs, i, j, v, h => by
    unfold kfind at h
    split at h
    · next hc =>
      simp at h
      obtain ⟨rfl, rfl⟩ := h
      exact ⟨0, x, rfl, rfl, hc, rfl⟩
    · obtain ⟨k, y, h1, h2, h3, h4⟩ := kfind_spec a b xs (i + 1) j v h
      exact ⟨k + 1, y, by omega, by simpa using h2, h3, h4⟩
/-- What a map holds behind m[k] = v. -/
def Mp.put (m : Mp) (a b : ByteArray) (v : Value) : Mp := match kfind a b m.es 0 with
  | some (i, _) => ⟨m.es.modify i fun x => { x with v := v }, m.clock⟩
  | none => ⟨m.es ++ [⟨a, b, v, m.clock⟩], m.clock + 1⟩
theorem isC_obj {w : World} {l : List Ent} (h : SH W l w) {i b0 : Nat} {m m' : Mp} (he : l[i]? = some (b0, isMp m)) : SH W (l.set i (b0, isMp m')) { w with heap := w.heap.setIfInBounds b0 (.map (m'.es.map KE.e).toArray m'.clock) } := by
  obtain ⟨_, ob, hb, rfl⟩ := h.at_ he
  exact h.set_ he (setB_ok w hb _) rfl
theorem e_mapUpdate {t k e : TypeId} {x y z : Operand} {b0 : Nat} {m : Mp} {a b : ByteArray} {v : Value} (i : Nat) (he : l[i]? = some (b0, isMp m)) [ht : MapT P t k e] [hk : KeyT P k] (hx : ρ x = .map (some b0)) (hy : ρ y = key a b) (hz : ρ z = v)
    (h : Ψ undef (l.set i (b0, isMp (m.put a b v)))) : Eff P W l ⟨d, .mapUpdate t x y z, ty, pos, af, gd⟩ ρ Ψ := by
  intro w hw
  obtain ⟨_, ob, hb, rfl⟩ := hw.at_ he
  have h1 : (Instr.mapUpdate t (.map (some b0)) (key a b) v).run P w = .ok () { w with heap := w.heap.setIfInBounds b0 (.map ((m.put a b v).es.map KE.e).toArray (m.put a b v).clock) } := by
    simp only [Instr.mapUpdate, Sem.run_bind, run_underlying ht.h, Result.andThen_ok, MapKept.run_getObj_map hb, Sem.run_pure, run_checkKey', run_findKey']
    cases hf : kfind a b m.es 0 with
    | none =>
      simp only [MapKept.run_setObj_map _ hb]
      unfold Mp.put
      rw [hf]
      simp [KE.e]
    | some r =>
      obtain ⟨j, v0⟩ := r
      obtain ⟨k0, x0, rfl, h2, h3, h4⟩ := kfind_spec a b m.es 0 j v0 hf
      rw [Nat.zero_add] at hf ⊢
      have hg : ((((m.es.map KE.e).toArray)[k0]?).map (·.key)).getD (key a b) = key x0.a x0.b := by simp [h2, KE.e]
      have hs : Instr.sameBits 10000 (key x0.a x0.b) (key a b) = true := sameBits_key a b x0.a x0.b h3 9999
      have hm : ((m.es.map KE.e).toArray.modify k0 fun e => { e with key := key a b, val := v }) = (((m.es.modify k0 fun x => { x with v := v }).map KE.e).toArray) := by
        apply Array.ext_getElem?
        intro q
        rw [Array.getElem?_modify]
        simp only [List.getElem?_toArray, List.getElem?_map, List.getElem?_modify]
        by_cases hq : k0 = q
        · subst hq
          have e1 : a = x0.a := by simp only [KE.is, Bool.and_eq_true] at h3; exact (MapKept.bytes_beq _ _).1 h3.1
          have e2 : b = x0.b := by simp only [KE.is, Bool.and_eq_true] at h3; exact (MapKept.bytes_beq _ _).1 h3.2
          simp [h2, KE.e, e1, e2]
        · simp [hq]
      simp only [hg, Instr.keyThatStays, hs, if_true, Sem.run_pure, Sem.run_bind, Result.andThen_ok, MapKept.run_setObj_map _ hb, hm]
      unfold Mp.put
      rw [hf]
  unfold OpW
  simp only [execOp, hx, hy, hz, Sem.run_bind, h1, Result.andThen_ok, Sem.run_pure]
  exact ⟨_, isC_obj hw he, h⟩
theorem e_clearMap {t k e : TypeId} {x : Operand} {b0 : Nat} {m : Mp} (i : Nat) (he : l[i]? = some (b0, isMp m)) [ht : MapT P t k e] (hx : ρ x = .map (some b0)) (h : Ψ (.tuple #[]) (l.set i (b0, isMp ⟨[], m.clock⟩))) :
    Eff P W l ⟨d, .call { callee := .builtin .clear, args := #[x], argTypes := #[t] }, ty, pos, af, gd⟩ ρ Ψ := by
  intro w hw
  obtain ⟨_, ob, hb, rfl⟩ := hw.at_ he
  have h1 : (Builtin.clear_ #[t] ty #[.map (some b0)]).run P w = .ok (.tuple #[]) { w with heap := w.heap.setIfInBounds b0 (.map #[] m.clock) } := by
    simp [Builtin.clear_, run_underlying ht.h, MapKept.run_getObj_map hb, MapKept.run_setObj_map _ hb]
  unfold OpW
  simp only [execOp, resolve, Sem.run_bind, Sem.run_pure, Result.andThen_ok, invoke, builtin, List.map_toArray, List.map_cons, List.map_nil, hx, h1]
  exact ⟨_, isC_obj (m' := ⟨[], m.clock⟩) hw he, h⟩
theorem e_delete {t k e k' : TypeId} {x y : Operand} {b0 j : Nat} {v0 : Value} {m : Mp} {a b : ByteArray} (i : Nat) (he : l[i]? = some (b0, isMp m)) [ht : MapT P t k e] [hk : KeyT P k] (hx : ρ x = .map (some b0)) (hy : ρ y = key a b) (hf : kfind a b m.es 0 = some (j, v0))
    (h : Ψ (.tuple #[]) (l.set i (b0, isMp ⟨m.es.eraseIdx j, m.clock⟩))) : Eff P W l ⟨d, .call { callee := .builtin .delete, args := #[x, y], argTypes := #[t, k'] }, ty, pos, af, gd⟩ ρ Ψ := by
  intro w hw
  obtain ⟨_, ob, hb, rfl⟩ := hw.at_ he
  obtain ⟨k0, x0, hj, h2, h3, h4⟩ := kfind_spec a b m.es 0 j v0 hf
  have hlt : j < m.es.length := by
    have := (List.getElem?_eq_some_iff.1 h2).1
    omega
  have hm : ((m.es.map KE.e).toArray.eraseIdxIfInBounds j) = ((m.es.eraseIdx j).map KE.e).toArray := by
    simp only [Array.eraseIdxIfInBounds, List.size_toArray, List.length_map, hlt, dif_pos]
    apply Array.ext'
    simp [List.eraseIdx_eq_take_drop_succ, List.map_take, List.map_drop]
  have h1 : (Builtin.delete_ #[t, k'] ty #[.map (some b0), key a b]).run P w = .ok (.tuple #[]) { w with heap := w.heap.setIfInBounds b0 (.map ((m.es.eraseIdx j).map KE.e).toArray m.clock) } := by
    have hm' : (m.es.map KE.e).eraseIdx j = (m.es.eraseIdx j).map KE.e := by simp [List.eraseIdx_eq_take_drop_succ, List.map_take, List.map_drop]
    simp [Builtin.delete_, run_underlying ht.h, MapKept.run_getObj_map hb, run_checkKey', run_findKey', hf, MapKept.run_setObj_map _ hb, hm']
  unfold OpW
  simp only [execOp, resolve, Sem.run_bind, Sem.run_pure, Result.andThen_ok, invoke, builtin, List.map_toArray, List.map_cons, List.map_nil, hx, hy, h1]
  exact ⟨_, isC_obj (m' := ⟨m.es.eraseIdx j, m.clock⟩) hw he, h⟩
theorem r_lenMap {t k e : TypeId} {x : Operand} {b : Nat} {m : Mp} [ht : MapT P t k e] (hx : ρ x = .map (some b)) : YldIf P (At b (isMp m)) ⟨d, .call { callee := .builtin .len, args := #[x], argTypes := #[t] }, ty, pos, af, gd⟩ ρ (.int .i64 (m.es.length : Int)) := by
  rintro w ⟨_, hb, rfl⟩
  simp [execOp, resolve, invoke, builtin, hx, Builtin.len_, run_underlying ht.h, MapKept.run_getObj_map hb, goInt]
theorem y_lenMapNil {t k e : TypeId} {x : Operand} [ht : MapT P t k e] (hx : ρ x = .map none) : Yld P ⟨d, .call { callee := .builtin .len, args := #[x], argTypes := #[t] }, ty, pos, af, gd⟩ ρ (.int .i64 0) := fun w => by
  simp [execOp, resolve, invoke, builtin, hx, Builtin.len_, run_underlying ht.h, goInt]
/-! ### range over a map -/
theorem e_range {t k e : TypeId} {x : Operand} {bm : Nat} {m : Mp} (i : Nat) (he : l[i]? = some (bm, isMp m)) [ht : MapT P t k e] (hx : ρ x = .map (some bm)) (h : ∀ b, Ψ (.pointer (some ⟨b, 0, none⟩)) ((b, isIt bm m.clock [] m.clock) :: l)) :
    Eff P W l ⟨d, .range t x, ty, pos, af, gd⟩ ρ Ψ := by
  intro w hw
  obtain ⟨_, ob, hb, rfl⟩ := hw.at_ he
  have h1 := run_range_map (P := P) w t k e bm _ m.clock ht.h hb
  unfold OpW
  simp only [execOp, hx, Sem.run_bind, h1, Result.andThen_ok, Sem.run_pure]
  exact ⟨_, hw.alloc _ (p := isIt bm m.clock [] m.clock) rfl, h _⟩
theorem mem_left {m : Mp} {seen : List Nat} {x : MapEntry} (h : x ∈ (leftOf (m.es.map KE.e).toArray seen.toArray).toList) : ∃ q ∈ m.es, q.e = x ∧ q.t ∉ seen := by
  unfold leftOf at h
  simp only [Array.toList_filter, List.mem_filter, List.mem_map] at h
  obtain ⟨⟨q, hq, rfl⟩, h2⟩ := h
  refine ⟨q, hq, rfl, fun hc => ?_⟩
  simp [KE.e, hc] at h2
theorem left_none {m : Mp} {seen : List Nat} (h : (leftOf (m.es.map KE.e).toArray seen.toArray).size = 0) : ∀ q ∈ m.es, q.t ∈ seen := by
  intro q hq
  refine Classical.byContradiction fun hc => ?_
  have : q.e ∈ (leftOf (m.es.map KE.e).toArray seen.toArray).toList := by
    unfold leftOf
    simp only [Array.toList_filter, List.mem_filter, List.mem_map]
    exact ⟨⟨q, hq, rfl⟩, by simp [KE.e, hc]⟩
  rw [← Array.length_toList] at h
  rw [List.eq_nil_of_length_eq_zero h] at this
  cases this
/-- One step: any entry not yet seen, or the end where none is left. -/
theorem e_next {x : Operand} {it bm since last : Nat} {seen : List Nat} {m : Mp} (i j : Nat) (hi : l[i]? = some (it, isIt bm since seen last)) (hj : l[j]? = some (bm, isMp m)) (hx : ρ x = .pointer (some ⟨it, 0, none⟩))
    (hold : ∀ q ∈ m.es, q.t < since) (hsc : since ≤ last) (h0 : (∀ q ∈ m.es, q.t ∈ seen) → Ψ (.tuple #[.bool false]) l)
    (h1 : ∀ q ∈ m.es, q.t ∉ seen → Ψ (.tuple #[.bool true, key q.a q.b, q.v]) (l.set i (it, isIt bm since (seen ++ [q.t]) m.clock))) : Eff P W l ⟨d, .next x false, ty, pos, af, gd⟩ ρ Ψ := by
  intro w hw
  obtain ⟨_, oi, hbi, rfl⟩ := hw.at_ hi
  obtain ⟨_, oj, hbj, rfl⟩ := hw.at_ hj
  have hold' : ∀ x ∈ (m.es.map KE.e).toArray.toList, x.born < since := fun x hx => by
    simp only [List.mem_map] at hx
    obtain ⟨q, hq, rfl⟩ := hx
    exact hold q hq
  unfold OpW
  simp only [execOp, hx, Sem.run_bind]
  rcases run_next_at (P := P) w ty it bm since last seen.toArray _ m.clock hbi hbj hold' hsc with ⟨hz, hr⟩ | ⟨x, hx', w1, hw1, hr⟩
  · simp only [hr, Result.andThen_ok, Sem.run_pure]
    exact ⟨_, hw, h0 (left_none hz)⟩
  · obtain ⟨q, hq, rfl, hns⟩ := mem_left hx'
    have hw1' : SH W l w1 := by
      rcases hw1 with rfl | rfl
      · exact hw
      · exact hw.drew
    obtain ⟨_, oi', hbi', rfl⟩ := hw1'.at_ hi
    simp only [hr, Result.andThen_ok, Sem.run_pure]
    exact ⟨_, hw1'.set_ hi (setB_ok w1 hbi' _) (by show _ = _; simp [KE.e]), h1 q hq hns⟩
theorem e_entry {x : Operand} {it bm since last : Nat} {seen : List Nat} {m : Mp} {q : KE} (i j : Nat) (hi : l[i]? = some (it, isIt bm since (seen ++ [q.t]) m.clock)) (hj : l[j]? = some (bm, isMp m)) (hx : ρ x = .pointer (some ⟨it, 0, none⟩))
    (hq : q ∈ m.es) (hn : (m.es.map (·.t)).Nodup) (h : Ψ (.tuple #[key q.a q.b, q.v]) l) : Eff P W l ⟨d, .entry x, ty, pos, af, gd⟩ ρ Ψ := by
  intro w hw
  obtain ⟨_, oi, hbi, rfl⟩ := hw.at_ hi
  obtain ⟨_, oj, hbj, rfl⟩ := hw.at_ hj
  have h1 := run_entry_at (P := P) w it bm since seen.toArray _ m.clock q.e (by simpa [KE.e] using hbi) hbj (by simpa using List.mem_map_of_mem hq) (by
    have e1 : (m.es.map KE.e).toArray.toList.map (·.born) = m.es.map (·.t) := by simp [KE.e, Function.comp_def]
    rw [e1]
    exact hn)
  unfold OpW
  simp only [execOp, hx, Sem.run_bind, h1, Result.andThen_ok, Sem.run_pure]
  exact ⟨_, hw, h⟩
end Go.Lg
