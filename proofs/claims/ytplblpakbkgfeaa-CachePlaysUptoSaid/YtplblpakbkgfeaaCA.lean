import Derived.Test.YtplblpakbkgfeaaC8
import Derived.Test.YtplblpakbkgfeaaX
set_option linter.unusedVariables false
set_option linter.unusedSimpArgs false
namespace Go.Proofs.Ytplblpakbkgfeaa
open Go.RowKit Go.Lg
/-- An item of the document's Cache, as it lies. -/
structure RI where
  a : ByteArray
  b : ByteArray
  c : Crd
  d : Value
def RI.abs (x : RI) : It := ⟨x.a, x.b, x.c⟩
def RI.cells (x : RI) : List Value := .string x.a :: .string x.b :: x.c.cells x.d
def its (l : List RI) : List Value := l.flatMap RI.cells
theorem its_len : ∀ l : List RI, (its l).length = l.length * 39
  | [] => rfl
  | p :: l => by
    have := its_len l
    unfold its at this ⊢
    rw [List.flatMap_cons, List.length_append, this, List.length_cons, show p.cells.length = 39 from rfl]
    omega
theorem its_append (l m : List RI) : its (l ++ m) = its l ++ its m := by simp [its]
theorem its_one (x : RI) : its [x] = x.cells := by simp [its]
theorem its_cell : ∀ {l : List RI} {i : Nat} {x : RI}, l[i]? = some x → ∀ k, k < 39 → (its l)[i * 39 + k]? = x.cells[k]?
  | [], _, _, h, _, _ => by simp at h
  | y :: l, 0, x, h, k, hk => by
    obtain rfl : y = x := by simpa using h
    rw [Nat.zero_mul, Nat.zero_add]
    unfold its
    rw [List.flatMap_cons, List.getElem?_append_left (by rw [show y.cells.length = 39 from rfl]; exact hk)]
  | y :: l, i + 1, x, h, k, hk => by
    have := its_cell (l := l) (i := i) (by simpa using h) k hk
    unfold its at this ⊢
    rw [List.flatMap_cons, List.getElem?_append_right (by rw [show y.cells.length = 39 from rfl]; omega), show y.cells.length = 39 from rfl, show (i + 1) * 39 + k - 39 = i * 39 + k by omega]
    exact this
theorem its_sub {l : List RI} {i : Nat} {x : RI} (h : l[i]? = some x) (a n : Nat) (ha : a + n ≤ 39) : ((its l).drop (i * 39 + a)).take n = (x.cells.drop a).take n := by
  apply List.ext_getElem?
  intro k
  rw [List.getElem?_take, List.getElem?_take, List.getElem?_drop, List.getElem?_drop]
  by_cases hk : k < n
  · rw [if_pos hk, if_pos hk, Nat.add_assoc, its_cell h _ (by omega)]
  · rw [if_neg hk, if_neg hk]
theorem its_cells1 {l : List RI} (h : ∀ x ∈ l, ∃ A n c, x.d = .slice A n c) : ∀ u ∈ its l, u.oneCell' = true := by
  intro u hu
  obtain ⟨x, hx, hu⟩ := List.mem_flatMap.1 hu
  obtain ⟨A, n, c, hd⟩ := h x hx
  have : (x.cells.all fun u => u.oneCell') = true := by
    unfold RI.cells
    rw [hd]
    rfl
  exact List.all_eq_true.1 this u hu
theorem fill_cons {place : Nat → Option (Nat × Nat)} {cells : Array Value} {i off : Nat} {xs : List Value} {rest : List (Nat × Value)} (hp : place i = some (off, xs.length)) (hl : off + xs.length ≤ cells.size) :
    Instr.fill place cells ((i, .agg xs.toArray) :: rest) = Instr.fill place (splice cells off xs) rest := by
  have e1 : xs.toArray.zipIdx.foldl (fun cs x => cs.setIfInBounds (off + x.2) x.1) cells = splice cells off xs := by
    rw [← Array.foldl_toList, Array.toList_zipIdx]
    exact foldl_splice off xs 0 cells
  have hs : (Value.agg xs.toArray).cells.size = xs.length := by simp [Value.cells]
  simp only [Instr.fill, hp]
  rw [if_neg (by rw [hs]; simp; omega)]
  exact congrArg (fun c => Instr.fill place c rest) e1
def zit : List Value := .string ByteArray.empty :: .string ByteArray.empty :: zcr
theorem built_item {ks cs : List Value} (hk : ks.length = 2) (hc : cs.length = 37) : Pg.built 63 [(0, .agg ks.toArray), (1, .agg cs.toArray)] = some (ks ++ cs).toArray := by
  have h1 : Pg.built 63 [(0, .agg ks.toArray), (1, .agg cs.toArray)] = Instr.fill (fun i => #[((0 : Nat), (2 : Nat)), (2, 37)][i]?) zit.toArray [(0, .agg ks.toArray), (1, .agg cs.toArray)] := rfl
  have hz : zit.toArray.size = 39 := rfl
  rw [h1, fill_cons (off := 0) (by rw [hk]; rfl) (by omega), fill_cons (off := 2) (by rw [hc]; rfl) (by rw [splice_size]; omega)]
  rw [show splice (splice zit.toArray 0 ks) 2 cs = splice zit.toArray 0 (ks ++ cs) by rw [splice_append, hk]]
  rw [splice_all (by rw [List.length_append]; omega)]
  rfl
def stepI (p q : ByteArray) (c : Crd) (d : Value) (x : RI) : RI := if It.is p q x.abs then ⟨p, q, c, d⟩ else x
def keepX (now : Int) (x : RI) : Bool := decide (now ≤ x.c.en)
theorem is_eqI {p q : ByteArray} {x : It} (h : It.is p q x = true) : p = x.a ∧ q = x.b := by
  simp only [It.is, Bool.and_eq_true] at h
  exact ⟨(MapKept.bytes_beq _ _).1 h.1, (MapKept.bytes_beq _ _).1 h.2⟩
theorem is_comm {p q : ByteArray} {x : RI} : (x.a == p && x.b == q) = It.is p q x.abs := by
  rw [Bool.eq_iff_iff]
  simp only [It.is, RI.abs, Bool.and_eq_true]
  constructor
  · rintro ⟨h1, h2⟩
    rw [(MapKept.bytes_beq _ _).1 h1, (MapKept.bytes_beq _ _).1 h2]
    exact ⟨beqB _, beqB _⟩
  · rintro ⟨h1, h2⟩
    rw [(MapKept.bytes_beq _ _).1 h1, (MapKept.bytes_beq _ _).1 h2]
    exact ⟨beqB _, beqB _⟩
theorem step_abs (p q : ByteArray) (c : Crd) (d : Value) (l : List RI) : (l.map (stepI p q c d)).map RI.abs = (l.map RI.abs).map (setI p q c) := by
  rw [List.map_map, List.map_map]
  apply List.map_congr_left
  intro x _
  simp only [Function.comp, stepI, setI]
  by_cases h : It.is p q x.abs = true
  · rw [if_pos h, if_pos h]
    obtain ⟨h1, h2⟩ := is_eqI h
    simp only [RI.abs] at h1 h2 ⊢
    rw [h1, h2]
  · rw [if_neg h, if_neg h]
theorem keep_absX (now : Int) (l : List RI) : (l.map RI.abs).filter (keepI now) = (l.filter (keepX now)).map RI.abs := by
  rw [List.filter_map]
  rfl
theorem look_any (p q : ByteArray) (l : List RI) : (look p q (l.map RI.abs)).isSome = l.any fun x => It.is p q x.abs := by
  induction l with
  | nil => rfl
  | cons x l ih =>
    rw [List.map_cons, List.any_cons, ← ih]
    unfold look
    rw [List.find?_cons]
    cases It.is p q x.abs <;> simp
theorem step_none {p q : ByteArray} {c : Crd} {d : Value} {l : List RI} (h : (l.any fun x => It.is p q x.abs) = false) : l.map (stepI p q c d) = l := by
  induction l with
  | nil => rfl
  | cons x l ih =>
    rw [List.any_cons, Bool.or_eq_false_iff] at h
    rw [List.map_cons, ih h.2, stepI, if_neg (by rw [h.1]; simp)]
/-- What the document's Put leaves. -/
def putX (p q : ByteArray) (c : Crd) (d : Value) (now : Int) (l : List RI) : Int × List RI :=
  if (l.filter (keepX now)).any (fun x => It.is p q x.abs) then (0, (l.filter (keepX now)).map (stepI p q c d))
  else if 10 ≤ (l.filter (keepX now)).length then (13, l.filter (keepX now)) else (0, l.filter (keepX now) ++ [⟨p, q, c, d⟩])
theorem putX_abs (p q : ByteArray) (c : Crd) (d : Value) (now : Int) (l : List RI) : (putX p q c d now l).1 = (putR p q c now (l.map RI.abs)).1 ∧ (putX p q c d now l).2.map RI.abs = (putR p q c now (l.map RI.abs)).2 := by
  unfold putX putR
  rw [keep_absX]
  have hl := look_any p q (l.filter (keepX now))
  cases hk : look p q ((l.filter (keepX now)).map RI.abs) with
  | some y =>
    rw [hk] at hl
    rw [if_pos (show _ = true from hl.symm)]
    exact ⟨rfl, step_abs ..⟩
  | none =>
    rw [hk] at hl
    rw [if_neg (by rw [← hl]; simp), List.length_map]
    by_cases h10 : 10 ≤ (l.filter (keepX now)).length
    · rw [if_pos h10, if_pos h10]
      exact ⟨rfl, rfl⟩
    · rw [if_neg h10, if_neg h10]
      exact ⟨rfl, by simp [RI.abs]⟩
theorem putX_mem {p q : ByteArray} {c : Crd} {d : Value} {now : Int} {l : List RI} : ∀ x ∈ (putX p q c d now l).2, x ∈ l ∨ x = ⟨p, q, c, d⟩ := by
  intro x hx
  unfold putX at hx
  split at hx
  · obtain ⟨y, hy, rfl⟩ := List.mem_map.1 hx
    unfold stepI
    split
    · exact .inr rfl
    · exact .inl (List.mem_filter.1 hy).1
  · split at hx
    · exact .inl (List.mem_filter.1 hx).1
    · rcases List.mem_append.1 hx with hx | hx
      · exact .inl (List.mem_filter.1 hx).1
      · exact .inr (List.mem_singleton.1 hx)
theorem putX_len {p q : ByteArray} {c : Crd} {d : Value} {now : Int} {l : List RI} : (putX p q c d now l).2.length ≤ l.length + 1 := by
  have h := List.length_filter_le (keepX now) l
  unfold putX
  split
  · rw [List.length_map]; omega
  · split
    · exact Nat.le_succ_of_le h
    · rw [List.length_append]; simp; omega
def accX (p q : ByteArray) (c : Crd) (d : Value) (now : Int) (l : List RI) : List RI := (l.filter (keepX now)).map (stepI p q c d)
def hadX (p q : ByteArray) (now : Int) (l : List RI) : Bool := (l.filter (keepX now)).any fun x => It.is p q x.abs
theorem putX_eq (p q : ByteArray) (c : Crd) (d : Value) (now : Int) (l : List RI) : putX p q c d now l = if hadX p q now l then (0, accX p q c d now l) else if 10 ≤ (accX p q c d now l).length then (13, accX p q c d now l) else (0, accX p q c d now l ++ [⟨p, q, c, d⟩]) := by
  unfold putX hadX accX
  by_cases h : ((l.filter (keepX now)).any fun x => It.is p q x.abs) = true
  · rw [if_pos h, if_pos h]
  · have h' := Bool.eq_false_iff.2 h
    rw [if_neg h, if_neg h, step_none h']
theorem acc_snoc {p q : ByteArray} {c : Crd} {d : Value} {now : Int} {l : List RI} {i : Nat} {x : RI} (h : l[i]? = some x) :
    accX p q c d now (l.take (i + 1)) = (if keepX now x then accX p q c d now (l.take i) ++ [stepI p q c d x] else accX p q c d now (l.take i)) ∧ hadX p q now (l.take (i + 1)) = (if keepX now x then hadX p q now (l.take i) || It.is p q x.abs else hadX p q now (l.take i)) := by
  obtain ⟨hi, rfl⟩ := List.getElem?_eq_some_iff.1 h
  unfold accX hadX
  rw [List.take_succ_eq_append_getElem hi, List.filter_append]
  cases hk : keepX now l[i]
  · rw [List.filter_cons_of_neg (by rw [hk]; simp)]
    simp
  · rw [List.filter_cons_of_pos hk]
    simp
theorem acc_mem {p q : ByteArray} {c : Crd} {d : Value} {now : Int} {l : List RI} : ∀ x ∈ accX p q c d now l, x ∈ l ∨ x = ⟨p, q, c, d⟩ := by
  intro x hx
  unfold accX at hx
  obtain ⟨y, hy, rfl⟩ := List.mem_map.1 hx
  unfold stepI
  split
  · exact .inr rfl
  · exact .inl (List.mem_filter.1 hy).1
theorem acc_len {p q : ByteArray} {c : Crd} {d : Value} {now : Int} {l : List RI} : (accX p q c d now l).length ≤ l.length := by
  unfold accX
  rw [List.length_map]
  exact List.length_filter_le ..
theorem shape {v : Value} {l : List RI} {le : List Ent} (h : Own 63 39 v l.length (its l) le) : ∃ A cap, v = .slice A l.length cap ∧ (0 < l.length → ∃ g, A = some ⟨g, 0, none⟩ ∧ le = [(g, isR 63 (cap * 39) (its l))]) := by
  rcases h.2 with ⟨rfl, h1, rfl⟩ | ⟨g, cap, rfl, h1, h2, rfl⟩
  · exact ⟨none, 0, by rw [h1], fun h => by omega⟩
  · exact ⟨_, cap, rfl, fun _ => ⟨g, rfl, rfl⟩⟩
end Go.Proofs.Ytplblpakbkgfeaa
