import Derived.Test.YtplblpakbkgfeaaC9
import Derived.Test.YtplblpakbkgfeaaX
set_option linter.unusedVariables false
set_option linter.unusedSimpArgs false
namespace Go.Proofs.Ytplblpakbkgfeaa
open Go.RowKit Go.Lg
/-- An act that came in. -/
structure AcC where
  kind : Int
  p : ByteArray
  q : ByteArray
  c : Crd
  d : Value
  now : Int
def AcC.cells (a : AcC) : List Value := .int .i64 a.kind :: .string a.p :: .string a.q :: (a.c.cells a.d ++ [.int .i64 a.now])
def AcC.ok (W : World) (a : AcC) : Prop := Dv W [] a.d a.c.bs ∧ a.p.size ≤ 1048576 ∧ a.q.size ≤ 1048576 ∧ a.c.bs.length ≤ 1048576 ∧ a.c.a.size ≤ 1048576 ∧ a.c.b.size ≤ 1048576
def ActsAt (W : World) (b o len : Nat) (g : Nat → AcC) : Prop := ∀ i, i < len → (g i).ok W ∧ ∀ j u, (g i).cells[j]? = some u → W.cell? ⟨b, o + i * 41 + j, none⟩ = some u
theorem split4 (es : List Value) (h : es.length = 41) : es = (es.drop 0).take 1 ++ ((es.drop 1).take 2 ++ ((es.drop 3).take 37 ++ (es.drop 40).take 1)) := by
  have h4 : (es.drop 40).take 1 = es.drop 40 := List.take_of_length_le (by rw [List.length_drop]; omega)
  have h3 : es.drop 3 = (es.drop 3).take 37 ++ es.drop 40 := by
    have := (List.take_append_drop 37 (es.drop 3)).symm
    rwa [List.drop_drop] at this
  have h2 : es.drop 1 = (es.drop 1).take 2 ++ es.drop 3 := by
    have := (List.take_append_drop 2 (es.drop 1)).symm
    rwa [List.drop_drop] at this
  have h1 : es = (es.drop 0).take 1 ++ es.drop 1 := by
    have := (List.take_append_drop 1 es).symm
    rwa [List.drop_zero]
  rw [h4, ← h3, ← h2, ← h1]
section
variable {H : Type} {enc : TypeId × Value → H} {W : World}
theorem act_inB {d : DataW H} {es : List Value} (h : InB enc W 52 d es) (hB : Rows.uptoBulk d ≤ 1048576) : ∃ a : AcC, es = a.cells ∧ a.ok W := by
  obtain ⟨hl, f1⟩ := InB.struct Try.underlying52 h
  have s3 : Try.prog.cellsOf 3 = 1 := by kernel_rfl
  have s26 : Try.prog.cellsOf 26 = 2 := by kernel_rfl
  have s34 : Try.prog.cellsOf 34 = 37 := by kernel_rfl
  have s52 : Try.prog.cellsOf 52 = 41 := by kernel_rfl
  obtain ⟨d0, k0, b0⟩ : ∃ di, InB enc W 3 di ((es.drop 0).take (Try.prog.cellsOf 3)) ∧ Rows.uptoBulk di ≤ Rows.uptoBulk d := f1 0 _ rfl
  obtain ⟨d1, k1, b1⟩ : ∃ di, InB enc W 26 di ((es.drop 1).take (Try.prog.cellsOf 26)) ∧ Rows.uptoBulk di ≤ Rows.uptoBulk d := f1 1 _ rfl
  obtain ⟨d2, k2, b2⟩ : ∃ di, InB enc W 34 di ((es.drop 3).take (Try.prog.cellsOf 34)) ∧ Rows.uptoBulk di ≤ Rows.uptoBulk d := f1 2 _ rfl
  obtain ⟨d3, k3, b3⟩ : ∃ di, InB enc W 3 di ((es.drop 40).take (Try.prog.cellsOf 3)) ∧ Rows.uptoBulk di ≤ Rows.uptoBulk d := f1 3 _ rfl
  rw [s3] at k0 k3
  rw [s26] at k1
  rw [s34] at k2
  rw [s52] at hl
  obtain ⟨kind, hk, _⟩ := In.int Try.underlying3 k0.inn
  obtain ⟨now, hn, _⟩ := In.int Try.underlying3 k3.inn
  obtain ⟨p, q, hpq, lp, lq⟩ := princ_inB k1
  obtain ⟨c, dv, hc, hd, l1, l2, l3⟩ := cred_inB k2 (by omega)
  refine ⟨⟨kind, p, q, c, dv, now⟩, ?_, hd, by show p.size ≤ _; omega, by show q.size ≤ _; omega, by show c.bs.length ≤ _; omega, by show c.a.size ≤ _; omega, by show c.b.size ≤ _; omega⟩
  rw [split4 es hl, hk, hn, hpq, hc]
  rfl
theorem acts_inB {d : DataW H} {cs : List Value} (h : InB enc W 45 d cs) (hB : Rows.uptoBulk d ≤ 1048576) :
    ∃ A len cap, ∃ g : Nat → AcC, cs = [.slice A len cap] ∧ len ≤ 1048576 ∧ (0 < len → ∃ b o, A = some ⟨b, o, none⟩ ∧ ActsAt W b o len g) := by
  have hsz : Try.prog.cellsOf 52 = 41 := by kernel_rfl
  obtain ⟨A, len, cap, rfl, h1, h2, h3, ds, h4, h5, h6⟩ := InB.slice Try.underlying45 (by rw [hsz]; decide) h
  have hdl := bulkAll_len ds
  have z : AcC := ⟨0, ByteArray.empty, ByteArray.empty, noCrd, .slice none 0 0, 0⟩
  rcases Nat.eq_zero_or_pos len with h0 | h0
  · exact ⟨A, len, cap, fun _ => z, rfl, by omega, fun h => by omega⟩
  · obtain ⟨b, o, rfl, h7⟩ := h6 h0
    have key : ∀ i, ∃ a : AcC, i < len → a.ok W ∧ ∀ j u, a.cells[j]? = some u → W.cell? ⟨b, o + i * 41 + j, none⟩ = some u := fun i => by
      by_cases hi : i < len
      · obtain ⟨es, e1, e2, e3⟩ := h7 i (by omega)
        rw [hsz] at e3
        have hbi := bulk_get (ds := ds) (i := i) (List.getElem?_eq_getElem (by omega))
        obtain ⟨a, ha, hok⟩ := act_inB e2 (by omega)
        rw [ha] at e3
        exact ⟨a, fun _ => ⟨hok, e3⟩⟩
      · exact ⟨z, fun h => absurd h hi⟩
    exact ⟨_, len, cap, fun i => Classical.choose (key i), rfl, by omega, fun _ => ⟨b, o, rfl, fun i hi => Classical.choose_spec (key i) hi⟩⟩
end
attribute [local irreducible] JC JL JD RN RT Eff Yld YldIf Tr
set_option maxHeartbeats 4000000 in
theorem long_ok {A : Option Addr} {len cap : Nat} {g : Nat → AcC} {W : World} {r : List Ent} (hl : len ≤ 1048576) (hA : 0 < len → ∃ b o, A = some ⟨b, o, none⟩ ∧ ActsAt W b o len g) :
    Tr Pg 15 #[.slice A len cap] W r fun v l' => (v = .bool true ∨ v = .bool false) ∧ l' = r := by
  refine Tr.of_code (args := [_]) Try.func15 rfl Try.ntmps15 (Nat.le_of_ble_eq_true rfl) ?_
  repeat (first | refine JC.seq ?_ | refine JL.nil ?_ | refine RN.seq ?_ | refine RN.blk ?_ | refine JC.region ?_ | refine JC.skip ?_ | refine JC.block ?_ | refine JC.exit ?_ | refine JC.cond_t rfl ?_ | refine JC.cond_f rfl ?_ | refine JL.omit rfl ?_ | refine JL.pure rfl (y_move (by conv => lhs; whnf)) ?_ | refine JL.pure rfl (y_assign (by conv => lhs; whnf)) ?_ | refine JL.pure rfl (y_extract rfl rfl) ?_ | refine JL.pure rfl (y_fieldAddr rfl) ?_ | refine JL.pure rfl (y_nilCheck rfl) ?_ | refine JL.pure rfl (y_not rfl) ?_ | refine JL.pure rfl (y_pick_t rfl (by conv => lhs; whnf)) ?_ | refine JL.pure rfl (y_pick_f rfl (by conv => lhs; whnf)) ?_ | refine JL.pure rfl (y_eqlNil rfl rfl rfl) ?_ | refine JL.pure rfl (y_neqNil rfl rfl rfl) ?_ | refine JL.pure rfl (y_eqlSNil rfl rfl rfl) ?_ | refine JL.pure rfl (y_len rfl) ?_ | refine JL.pure rfl (y_lenS rfl) ?_ | refine JL.pure rfl (y_makeFunc rfl) ?_ | refine JL.pure rfl (y_lss rfl rfl (decide_eq_true (by omega))) ?_ | refine JL.pure rfl (y_lss rfl rfl (decide_eq_false (by omega))) ?_ | refine JL.pure rfl (y_leq rfl rfl (decide_eq_true (by omega))) ?_ | refine JL.pure rfl (y_leq rfl rfl (decide_eq_false (by omega))) ?_ | refine JL.pure rfl (y_gtr rfl rfl (decide_eq_true (by omega))) ?_ | refine JL.pure rfl (y_gtr rfl rfl (decide_eq_false (by omega))) ?_ | refine JL.pure rfl (y_geq rfl rfl (decide_eq_true (by omega))) ?_ | refine JL.pure rfl (y_geq rfl rfl (decide_eq_false (by omega))) ?_ | refine JL.pure rfl (y_eql rfl rfl (decide_eq_true (by omega))) ?_ | refine JL.pure rfl (y_eql rfl rfl (decide_eq_false (by omega))) ?_ | refine JL.pure rfl (y_neq rfl rfl (r := false) (decide_eq_true (by omega))) ?_ | refine JL.pure rfl (y_neq rfl rfl (r := true) (decide_eq_false (by omega))) ?_ | refine JL.pure rfl (y_add rfl rfl (wrap_add (by omega) (by omega))) ?_ | refine JL.pure rfl (y_sub rfl rfl (wrap_add (by omega) (by omega))) ?_ | refine JL.pure rfl (y_index rfl rfl (by omega)) ?_ | refine JL.pure rfl (y_index (j := 0) rfl rfl (by omega)) ?_ | refine JL.was rfl (w_load1 rfl (by assumption)) ?_)
  refine JC.loop (fun m f l => ∃ k, k + m = len ∧ ∃ s : Int, 0 ≤ s ∧ s ≤ 6000 ∧ FrOk f [(0, .slice A len cap), (3, .int .i64 s), (4, .int .i64 (k : Int))] ∧ l = r) len ?_ ?_
  · exact ⟨0, by omega, 0, by omega, by omega, ⟨rfl, rfl, rfl, trivial⟩, rfl⟩
  rintro m f l ⟨k, hm, s, s1, s2, hf, rfl⟩
  refine JC.frame _ hf fun f' => ?_
  by_cases hk : k < len
  · by_cases hk8 : k < 60
    · obtain ⟨b, o, rfl, hat⟩ := hA (by omega)
      obtain ⟨⟨⟨Ad, cd, hd, -, -, -⟩, q1, q2, q3, q4, q5⟩, hcell⟩ := hat k hk
      have g1 : W.cell? ⟨b, o + k * 41 + 1 + 0, none⟩ = some (.string (g k).p) := hcell 1 _ rfl
      have g2 : W.cell? ⟨b, o + k * 41 + 1 + 1, none⟩ = some (.string (g k).q) := hcell 2 _ rfl
      have g3 : W.cell? ⟨b, o + k * 41 + 3 + 0 + 3, none⟩ = some (.slice Ad (g k).c.bs.length cd) := by rw [← hd]; exact hcell 6 _ rfl
      have g4 : W.cell? ⟨b, o + k * 41 + 3 + 0 + 0 + 1, none⟩ = some (.string (g k).c.b) := hcell 4 _ rfl
      have g5 : W.cell? ⟨b, o + k * 41 + 3 + 0 + 0 + 0, none⟩ = some (.string (g k).c.a) := hcell 3 _ rfl
      generalize (g k).p = p at *
      generalize (g k).q = q at *
      generalize (g k).c.bs.length = n3 at *
      generalize (g k).c.b = cb at *
      generalize (g k).c.a = ca at *
      repeat (first | refine JC.seq ?_ | refine JL.nil ?_ | refine RN.seq ?_ | refine RN.blk ?_ | refine JC.region ?_ | refine JC.skip ?_ | refine JC.block ?_ | refine JC.exit ?_ | refine JC.cond_t rfl ?_ | refine JC.cond_f rfl ?_ | refine JL.omit rfl ?_ | refine JL.pure rfl (y_move (by conv => lhs; whnf)) ?_ | refine JL.pure rfl (y_assign (by conv => lhs; whnf)) ?_ | refine JL.pure rfl (y_extract rfl rfl) ?_ | refine JL.pure rfl (y_fieldAddr rfl) ?_ | refine JL.pure rfl (y_nilCheck rfl) ?_ | refine JL.pure rfl (y_not rfl) ?_ | refine JL.pure rfl (y_pick_t rfl (by conv => lhs; whnf)) ?_ | refine JL.pure rfl (y_pick_f rfl (by conv => lhs; whnf)) ?_ | refine JL.pure rfl (y_eqlNil rfl rfl rfl) ?_ | refine JL.pure rfl (y_neqNil rfl rfl rfl) ?_ | refine JL.pure rfl (y_eqlSNil rfl rfl rfl) ?_ | refine JL.pure rfl (y_len rfl) ?_ | refine JL.pure rfl (y_lenS rfl) ?_ | refine JL.pure rfl (y_makeFunc rfl) ?_ | refine JL.pure rfl (y_lss rfl rfl (decide_eq_true (by omega))) ?_ | refine JL.pure rfl (y_lss rfl rfl (decide_eq_false (by omega))) ?_ | refine JL.pure rfl (y_leq rfl rfl (decide_eq_true (by omega))) ?_ | refine JL.pure rfl (y_leq rfl rfl (decide_eq_false (by omega))) ?_ | refine JL.pure rfl (y_gtr rfl rfl (decide_eq_true (by omega))) ?_ | refine JL.pure rfl (y_gtr rfl rfl (decide_eq_false (by omega))) ?_ | refine JL.pure rfl (y_geq rfl rfl (decide_eq_true (by omega))) ?_ | refine JL.pure rfl (y_geq rfl rfl (decide_eq_false (by omega))) ?_ | refine JL.pure rfl (y_eql rfl rfl (decide_eq_true (by omega))) ?_ | refine JL.pure rfl (y_eql rfl rfl (decide_eq_false (by omega))) ?_ | refine JL.pure rfl (y_neq rfl rfl (r := false) (decide_eq_true (by omega))) ?_ | refine JL.pure rfl (y_neq rfl rfl (r := true) (decide_eq_false (by omega))) ?_ | refine JL.pure rfl (y_add rfl rfl (wrap_add (by omega) (by omega))) ?_ | refine JL.pure rfl (y_sub rfl rfl (wrap_add (by omega) (by omega))) ?_ | refine JL.pure rfl (y_index rfl rfl (by omega)) ?_ | refine JL.pure rfl (y_index (j := 0) rfl rfl (by omega)) ?_ | refine JL.was rfl (w_load1 rfl (by assumption)) ?_)
      refine JC.drawn 48 rfl mixed ?_
      refine JD.pure 0 rfl (by kernel_rfl) rfl (y_move (by conv => lhs; whnf)) ?_
      first | refine JD.pure 1 rfl (by kernel_rfl) rfl (y_add rfl rfl (wrap_add (by omega) (by omega))) ?_ | refine JD.pure 1 rfl (by kernel_rfl) rfl (y_eqlNil rfl rfl rfl) ?_ | refine JD.pure 1 rfl (by kernel_rfl) rfl (y_neqNil rfl rfl rfl) ?_ | refine JD.pure 1 rfl (by kernel_rfl) rfl (y_eqlSNil rfl rfl rfl) ?_
      refine JD.pure 2 rfl (by kernel_rfl) rfl (y_move (by conv => lhs; whnf)) ?_
      refine JD.pure 3 rfl (by kernel_rfl) rfl (y_move (by conv => lhs; whnf)) ?_
      first  | refine JD.pure 4 rfl (by kernel_rfl) rfl (y_indexA rfl rfl (by omega)) ?_ | refine JD.pure 4 rfl (by kernel_rfl) rfl (y_index rfl rfl (by omega)) ?_
      refine JD.pure 5 rfl (by kernel_rfl) rfl (y_fieldAddr rfl) ?_
      refine JD.pure 6 rfl (by kernel_rfl) rfl (y_fieldAddr rfl) ?_
      first | refine JD.read 7 0 rfl rfl (by kernel_rfl) (by kernel_rfl) rfl (r_load1 rfl rfl) ?_ | refine JD.read 7 0 rfl rfl (by kernel_rfl) (by kernel_rfl) rfl (r_loadA rfl (Nat.le_of_ble_eq_true rfl) rfl) ?_ | refine JD.read 7 0 rfl rfl (by kernel_rfl) (by kernel_rfl) rfl (r_loadW rfl (by first | rfl | assumption)) ?_ | refine JD.read 7 0 rfl rfl (by kernel_rfl) (by kernel_rfl) rfl (r_loadR1 rfl (by first | rfl | assumption)) ?_ | refine JD.was 7 rfl (by kernel_rfl) (by kernel_rfl) rfl (w_load1 rfl (by assumption)) ?_
      first | refine JD.pure 8 rfl (by kernel_rfl) rfl (y_len rfl) ?_ | refine JD.pure 8 rfl (by kernel_rfl) rfl (y_lenS rfl) ?_
      first | refine JD.pure 9 rfl (by kernel_rfl) rfl (y_add rfl rfl (wrap_add (by omega) (by omega))) ?_ | refine JD.pure 9 rfl (by kernel_rfl) rfl (y_eqlNil rfl rfl rfl) ?_ | refine JD.pure 9 rfl (by kernel_rfl) rfl (y_neqNil rfl rfl rfl) ?_ | refine JD.pure 9 rfl (by kernel_rfl) rfl (y_eqlSNil rfl rfl rfl) ?_
      refine JD.pure 10 rfl (by kernel_rfl) rfl (y_move (by conv => lhs; whnf)) ?_
      refine JD.pure 11 rfl (by kernel_rfl) rfl (y_move (by conv => lhs; whnf)) ?_
      first  | refine JD.pure 12 rfl (by kernel_rfl) rfl (y_indexA rfl rfl (by omega)) ?_ | refine JD.pure 12 rfl (by kernel_rfl) rfl (y_index rfl rfl (by omega)) ?_
      refine JD.pure 13 rfl (by kernel_rfl) rfl (y_fieldAddr rfl) ?_
      refine JD.pure 14 rfl (by kernel_rfl) rfl (y_fieldAddr rfl) ?_
      first | refine JD.read 15 0 rfl rfl (by kernel_rfl) (by kernel_rfl) rfl (r_load1 rfl rfl) ?_ | refine JD.read 15 0 rfl rfl (by kernel_rfl) (by kernel_rfl) rfl (r_loadA rfl (Nat.le_of_ble_eq_true rfl) rfl) ?_ | refine JD.read 15 0 rfl rfl (by kernel_rfl) (by kernel_rfl) rfl (r_loadW rfl (by first | rfl | assumption)) ?_ | refine JD.read 15 0 rfl rfl (by kernel_rfl) (by kernel_rfl) rfl (r_loadR1 rfl (by first | rfl | assumption)) ?_ | refine JD.was 15 rfl (by kernel_rfl) (by kernel_rfl) rfl (w_load1 rfl (by assumption)) ?_
      first | refine JD.pure 16 rfl (by kernel_rfl) rfl (y_len rfl) ?_ | refine JD.pure 16 rfl (by kernel_rfl) rfl (y_lenS rfl) ?_
      first | refine JD.pure 17 rfl (by kernel_rfl) rfl (y_add rfl rfl (wrap_add (by omega) (by omega))) ?_ | refine JD.pure 17 rfl (by kernel_rfl) rfl (y_eqlNil rfl rfl rfl) ?_ | refine JD.pure 17 rfl (by kernel_rfl) rfl (y_neqNil rfl rfl rfl) ?_ | refine JD.pure 17 rfl (by kernel_rfl) rfl (y_eqlSNil rfl rfl rfl) ?_
      refine JD.pure 18 rfl (by kernel_rfl) rfl (y_move (by conv => lhs; whnf)) ?_
      refine JD.pure 19 rfl (by kernel_rfl) rfl (y_move (by conv => lhs; whnf)) ?_
      first  | refine JD.pure 20 rfl (by kernel_rfl) rfl (y_indexA rfl rfl (by omega)) ?_ | refine JD.pure 20 rfl (by kernel_rfl) rfl (y_index rfl rfl (by omega)) ?_
      refine JD.pure 21 rfl (by kernel_rfl) rfl (y_fieldAddr rfl) ?_
      refine JD.pure 22 rfl (by kernel_rfl) rfl (y_fieldAddr rfl) ?_
      refine JD.pure 23 rfl (by kernel_rfl) rfl (y_fieldAddr rfl) ?_
      first | refine JD.read 24 0 rfl rfl (by kernel_rfl) (by kernel_rfl) rfl (r_load1 rfl rfl) ?_ | refine JD.read 24 0 rfl rfl (by kernel_rfl) (by kernel_rfl) rfl (r_loadA rfl (Nat.le_of_ble_eq_true rfl) rfl) ?_ | refine JD.read 24 0 rfl rfl (by kernel_rfl) (by kernel_rfl) rfl (r_loadW rfl (by first | rfl | assumption)) ?_ | refine JD.read 24 0 rfl rfl (by kernel_rfl) (by kernel_rfl) rfl (r_loadR1 rfl (by first | rfl | assumption)) ?_ | refine JD.was 24 rfl (by kernel_rfl) (by kernel_rfl) rfl (w_load1 rfl (by assumption)) ?_
      first | refine JD.pure 25 rfl (by kernel_rfl) rfl (y_len rfl) ?_ | refine JD.pure 25 rfl (by kernel_rfl) rfl (y_lenS rfl) ?_
      first | refine JD.pure 26 rfl (by kernel_rfl) rfl (y_add rfl rfl (wrap_add (by omega) (by omega))) ?_ | refine JD.pure 26 rfl (by kernel_rfl) rfl (y_eqlNil rfl rfl rfl) ?_ | refine JD.pure 26 rfl (by kernel_rfl) rfl (y_neqNil rfl rfl rfl) ?_ | refine JD.pure 26 rfl (by kernel_rfl) rfl (y_eqlSNil rfl rfl rfl) ?_
      refine JD.pure 27 rfl (by kernel_rfl) rfl (y_move (by conv => lhs; whnf)) ?_
      refine JD.pure 28 rfl (by kernel_rfl) rfl (y_move (by conv => lhs; whnf)) ?_
      first  | refine JD.pure 29 rfl (by kernel_rfl) rfl (y_indexA rfl rfl (by omega)) ?_ | refine JD.pure 29 rfl (by kernel_rfl) rfl (y_index rfl rfl (by omega)) ?_
      refine JD.pure 30 rfl (by kernel_rfl) rfl (y_fieldAddr rfl) ?_
      refine JD.pure 31 rfl (by kernel_rfl) rfl (y_fieldAddr rfl) ?_
      refine JD.pure 32 rfl (by kernel_rfl) rfl (y_fieldAddr rfl) ?_
      refine JD.pure 33 rfl (by kernel_rfl) rfl (y_fieldAddr rfl) ?_
      first | refine JD.read 34 0 rfl rfl (by kernel_rfl) (by kernel_rfl) rfl (r_load1 rfl rfl) ?_ | refine JD.read 34 0 rfl rfl (by kernel_rfl) (by kernel_rfl) rfl (r_loadA rfl (Nat.le_of_ble_eq_true rfl) rfl) ?_ | refine JD.read 34 0 rfl rfl (by kernel_rfl) (by kernel_rfl) rfl (r_loadW rfl (by first | rfl | assumption)) ?_ | refine JD.read 34 0 rfl rfl (by kernel_rfl) (by kernel_rfl) rfl (r_loadR1 rfl (by first | rfl | assumption)) ?_ | refine JD.was 34 rfl (by kernel_rfl) (by kernel_rfl) rfl (w_load1 rfl (by assumption)) ?_
      first | refine JD.pure 35 rfl (by kernel_rfl) rfl (y_len rfl) ?_ | refine JD.pure 35 rfl (by kernel_rfl) rfl (y_lenS rfl) ?_
      first | refine JD.pure 36 rfl (by kernel_rfl) rfl (y_add rfl rfl (wrap_add (by omega) (by omega))) ?_ | refine JD.pure 36 rfl (by kernel_rfl) rfl (y_eqlNil rfl rfl rfl) ?_ | refine JD.pure 36 rfl (by kernel_rfl) rfl (y_neqNil rfl rfl rfl) ?_ | refine JD.pure 36 rfl (by kernel_rfl) rfl (y_eqlSNil rfl rfl rfl) ?_
      refine JD.pure 37 rfl (by kernel_rfl) rfl (y_move (by conv => lhs; whnf)) ?_
      refine JD.pure 38 rfl (by kernel_rfl) rfl (y_move (by conv => lhs; whnf)) ?_
      first  | refine JD.pure 39 rfl (by kernel_rfl) rfl (y_indexA rfl rfl (by omega)) ?_ | refine JD.pure 39 rfl (by kernel_rfl) rfl (y_index rfl rfl (by omega)) ?_
      refine JD.pure 40 rfl (by kernel_rfl) rfl (y_fieldAddr rfl) ?_
      refine JD.pure 41 rfl (by kernel_rfl) rfl (y_fieldAddr rfl) ?_
      refine JD.pure 42 rfl (by kernel_rfl) rfl (y_fieldAddr rfl) ?_
      refine JD.pure 43 rfl (by kernel_rfl) rfl (y_fieldAddr rfl) ?_
      first | refine JD.read 44 0 rfl rfl (by kernel_rfl) (by kernel_rfl) rfl (r_load1 rfl rfl) ?_ | refine JD.read 44 0 rfl rfl (by kernel_rfl) (by kernel_rfl) rfl (r_loadA rfl (Nat.le_of_ble_eq_true rfl) rfl) ?_ | refine JD.read 44 0 rfl rfl (by kernel_rfl) (by kernel_rfl) rfl (r_loadW rfl (by first | rfl | assumption)) ?_ | refine JD.read 44 0 rfl rfl (by kernel_rfl) (by kernel_rfl) rfl (r_loadR1 rfl (by first | rfl | assumption)) ?_ | refine JD.was 44 rfl (by kernel_rfl) (by kernel_rfl) rfl (w_load1 rfl (by assumption)) ?_
      first | refine JD.pure 45 rfl (by kernel_rfl) rfl (y_len rfl) ?_ | refine JD.pure 45 rfl (by kernel_rfl) rfl (y_lenS rfl) ?_
      first | refine JD.pure 46 rfl (by kernel_rfl) rfl (y_add rfl rfl (wrap_add (by omega) (by omega))) ?_ | refine JD.pure 46 rfl (by kernel_rfl) rfl (y_eqlNil rfl rfl rfl) ?_ | refine JD.pure 46 rfl (by kernel_rfl) rfl (y_neqNil rfl rfl rfl) ?_ | refine JD.pure 46 rfl (by kernel_rfl) rfl (y_eqlSNil rfl rfl rfl) ?_
      refine JD.pure 47 rfl (by kernel_rfl) rfl (y_assign (by conv => lhs; whnf)) ?_
      refine JD.done (by kernel_rfl) ?_
      by_cases hbig : 6000 < s + 1 + (p.size : Int) + (q.size : Int) + (n3 : Int) + (cb.size : Int) + (ca.size : Int)
      · repeat (first | refine JC.seq ?_ | refine JL.nil ?_ | refine RN.seq ?_ | refine RN.blk ?_ | refine JC.region ?_ | refine JC.skip ?_ | refine JC.block ?_ | refine JC.exit ?_ | refine JC.cond_t rfl ?_ | refine JC.cond_f rfl ?_ | refine JL.omit rfl ?_ | refine JL.pure rfl (y_move (by conv => lhs; whnf)) ?_ | refine JL.pure rfl (y_assign (by conv => lhs; whnf)) ?_ | refine JL.pure rfl (y_extract rfl rfl) ?_ | refine JL.pure rfl (y_fieldAddr rfl) ?_ | refine JL.pure rfl (y_nilCheck rfl) ?_ | refine JL.pure rfl (y_not rfl) ?_ | refine JL.pure rfl (y_pick_t rfl (by conv => lhs; whnf)) ?_ | refine JL.pure rfl (y_pick_f rfl (by conv => lhs; whnf)) ?_ | refine JL.pure rfl (y_eqlNil rfl rfl rfl) ?_ | refine JL.pure rfl (y_neqNil rfl rfl rfl) ?_ | refine JL.pure rfl (y_eqlSNil rfl rfl rfl) ?_ | refine JL.pure rfl (y_len rfl) ?_ | refine JL.pure rfl (y_lenS rfl) ?_ | refine JL.pure rfl (y_makeFunc rfl) ?_ | refine JL.pure rfl (y_lss rfl rfl (decide_eq_true (by omega))) ?_ | refine JL.pure rfl (y_lss rfl rfl (decide_eq_false (by omega))) ?_ | refine JL.pure rfl (y_leq rfl rfl (decide_eq_true (by omega))) ?_ | refine JL.pure rfl (y_leq rfl rfl (decide_eq_false (by omega))) ?_ | refine JL.pure rfl (y_gtr rfl rfl (decide_eq_true (by omega))) ?_ | refine JL.pure rfl (y_gtr rfl rfl (decide_eq_false (by omega))) ?_ | refine JL.pure rfl (y_geq rfl rfl (decide_eq_true (by omega))) ?_ | refine JL.pure rfl (y_geq rfl rfl (decide_eq_false (by omega))) ?_ | refine JL.pure rfl (y_eql rfl rfl (decide_eq_true (by omega))) ?_ | refine JL.pure rfl (y_eql rfl rfl (decide_eq_false (by omega))) ?_ | refine JL.pure rfl (y_neq rfl rfl (r := false) (decide_eq_true (by omega))) ?_ | refine JL.pure rfl (y_neq rfl rfl (r := true) (decide_eq_false (by omega))) ?_ | refine JL.pure rfl (y_add rfl rfl (wrap_add (by omega) (by omega))) ?_ | refine JL.pure rfl (y_sub rfl rfl (wrap_add (by omega) (by omega))) ?_ | refine JL.pure rfl (y_index rfl rfl (by omega)) ?_ | refine JL.pure rfl (y_index (j := 0) rfl rfl (by omega)) ?_ | refine JL.was rfl (w_load1 rfl (by assumption)) ?_)
        exact JC.ret (RT.one rfl rfl (by conv => lhs; whnf) ⟨.inl rfl, rfl⟩)
      · repeat (first | refine JC.seq ?_ | refine JL.nil ?_ | refine RN.seq ?_ | refine RN.blk ?_ | refine JC.region ?_ | refine JC.skip ?_ | refine JC.block ?_ | refine JC.exit ?_ | refine JC.cond_t rfl ?_ | refine JC.cond_f rfl ?_ | refine JL.omit rfl ?_ | refine JL.pure rfl (y_move (by conv => lhs; whnf)) ?_ | refine JL.pure rfl (y_assign (by conv => lhs; whnf)) ?_ | refine JL.pure rfl (y_extract rfl rfl) ?_ | refine JL.pure rfl (y_fieldAddr rfl) ?_ | refine JL.pure rfl (y_nilCheck rfl) ?_ | refine JL.pure rfl (y_not rfl) ?_ | refine JL.pure rfl (y_pick_t rfl (by conv => lhs; whnf)) ?_ | refine JL.pure rfl (y_pick_f rfl (by conv => lhs; whnf)) ?_ | refine JL.pure rfl (y_eqlNil rfl rfl rfl) ?_ | refine JL.pure rfl (y_neqNil rfl rfl rfl) ?_ | refine JL.pure rfl (y_eqlSNil rfl rfl rfl) ?_ | refine JL.pure rfl (y_len rfl) ?_ | refine JL.pure rfl (y_lenS rfl) ?_ | refine JL.pure rfl (y_makeFunc rfl) ?_ | refine JL.pure rfl (y_lss rfl rfl (decide_eq_true (by omega))) ?_ | refine JL.pure rfl (y_lss rfl rfl (decide_eq_false (by omega))) ?_ | refine JL.pure rfl (y_leq rfl rfl (decide_eq_true (by omega))) ?_ | refine JL.pure rfl (y_leq rfl rfl (decide_eq_false (by omega))) ?_ | refine JL.pure rfl (y_gtr rfl rfl (decide_eq_true (by omega))) ?_ | refine JL.pure rfl (y_gtr rfl rfl (decide_eq_false (by omega))) ?_ | refine JL.pure rfl (y_geq rfl rfl (decide_eq_true (by omega))) ?_ | refine JL.pure rfl (y_geq rfl rfl (decide_eq_false (by omega))) ?_ | refine JL.pure rfl (y_eql rfl rfl (decide_eq_true (by omega))) ?_ | refine JL.pure rfl (y_eql rfl rfl (decide_eq_false (by omega))) ?_ | refine JL.pure rfl (y_neq rfl rfl (r := false) (decide_eq_true (by omega))) ?_ | refine JL.pure rfl (y_neq rfl rfl (r := true) (decide_eq_false (by omega))) ?_ | refine JL.pure rfl (y_add rfl rfl (wrap_add (by omega) (by omega))) ?_ | refine JL.pure rfl (y_sub rfl rfl (wrap_add (by omega) (by omega))) ?_ | refine JL.pure rfl (y_index rfl rfl (by omega)) ?_ | refine JL.pure rfl (y_index (j := 0) rfl rfl (by omega)) ?_ | refine JL.was rfl (w_load1 rfl (by assumption)) ?_)
        exact RN.loop (m' := m - 1) (by omega) ⟨k + 1, by omega, _, by omega, by omega, ⟨rfl, rfl, rfl, trivial⟩, rfl⟩
    · repeat (first | refine JC.seq ?_ | refine JL.nil ?_ | refine RN.seq ?_ | refine RN.blk ?_ | refine JC.region ?_ | refine JC.skip ?_ | refine JC.block ?_ | refine JC.exit ?_ | refine JC.cond_t rfl ?_ | refine JC.cond_f rfl ?_ | refine JL.omit rfl ?_ | refine JL.pure rfl (y_move (by conv => lhs; whnf)) ?_ | refine JL.pure rfl (y_assign (by conv => lhs; whnf)) ?_ | refine JL.pure rfl (y_extract rfl rfl) ?_ | refine JL.pure rfl (y_fieldAddr rfl) ?_ | refine JL.pure rfl (y_nilCheck rfl) ?_ | refine JL.pure rfl (y_not rfl) ?_ | refine JL.pure rfl (y_pick_t rfl (by conv => lhs; whnf)) ?_ | refine JL.pure rfl (y_pick_f rfl (by conv => lhs; whnf)) ?_ | refine JL.pure rfl (y_eqlNil rfl rfl rfl) ?_ | refine JL.pure rfl (y_neqNil rfl rfl rfl) ?_ | refine JL.pure rfl (y_eqlSNil rfl rfl rfl) ?_ | refine JL.pure rfl (y_len rfl) ?_ | refine JL.pure rfl (y_lenS rfl) ?_ | refine JL.pure rfl (y_makeFunc rfl) ?_ | refine JL.pure rfl (y_lss rfl rfl (decide_eq_true (by omega))) ?_ | refine JL.pure rfl (y_lss rfl rfl (decide_eq_false (by omega))) ?_ | refine JL.pure rfl (y_leq rfl rfl (decide_eq_true (by omega))) ?_ | refine JL.pure rfl (y_leq rfl rfl (decide_eq_false (by omega))) ?_ | refine JL.pure rfl (y_gtr rfl rfl (decide_eq_true (by omega))) ?_ | refine JL.pure rfl (y_gtr rfl rfl (decide_eq_false (by omega))) ?_ | refine JL.pure rfl (y_geq rfl rfl (decide_eq_true (by omega))) ?_ | refine JL.pure rfl (y_geq rfl rfl (decide_eq_false (by omega))) ?_ | refine JL.pure rfl (y_eql rfl rfl (decide_eq_true (by omega))) ?_ | refine JL.pure rfl (y_eql rfl rfl (decide_eq_false (by omega))) ?_ | refine JL.pure rfl (y_neq rfl rfl (r := false) (decide_eq_true (by omega))) ?_ | refine JL.pure rfl (y_neq rfl rfl (r := true) (decide_eq_false (by omega))) ?_ | refine JL.pure rfl (y_add rfl rfl (wrap_add (by omega) (by omega))) ?_ | refine JL.pure rfl (y_sub rfl rfl (wrap_add (by omega) (by omega))) ?_ | refine JL.pure rfl (y_index rfl rfl (by omega)) ?_ | refine JL.pure rfl (y_index (j := 0) rfl rfl (by omega)) ?_ | refine JL.was rfl (w_load1 rfl (by assumption)) ?_)
      exact JC.ret (RT.one rfl rfl (by conv => lhs; whnf) ⟨.inr rfl, rfl⟩)
  · repeat (first | refine JC.seq ?_ | refine JL.nil ?_ | refine RN.seq ?_ | refine RN.blk ?_ | refine JC.region ?_ | refine JC.skip ?_ | refine JC.block ?_ | refine JC.exit ?_ | refine JC.cond_t rfl ?_ | refine JC.cond_f rfl ?_ | refine JL.omit rfl ?_ | refine JL.pure rfl (y_move (by conv => lhs; whnf)) ?_ | refine JL.pure rfl (y_assign (by conv => lhs; whnf)) ?_ | refine JL.pure rfl (y_extract rfl rfl) ?_ | refine JL.pure rfl (y_fieldAddr rfl) ?_ | refine JL.pure rfl (y_nilCheck rfl) ?_ | refine JL.pure rfl (y_not rfl) ?_ | refine JL.pure rfl (y_pick_t rfl (by conv => lhs; whnf)) ?_ | refine JL.pure rfl (y_pick_f rfl (by conv => lhs; whnf)) ?_ | refine JL.pure rfl (y_eqlNil rfl rfl rfl) ?_ | refine JL.pure rfl (y_neqNil rfl rfl rfl) ?_ | refine JL.pure rfl (y_eqlSNil rfl rfl rfl) ?_ | refine JL.pure rfl (y_len rfl) ?_ | refine JL.pure rfl (y_lenS rfl) ?_ | refine JL.pure rfl (y_makeFunc rfl) ?_ | refine JL.pure rfl (y_lss rfl rfl (decide_eq_true (by omega))) ?_ | refine JL.pure rfl (y_lss rfl rfl (decide_eq_false (by omega))) ?_ | refine JL.pure rfl (y_leq rfl rfl (decide_eq_true (by omega))) ?_ | refine JL.pure rfl (y_leq rfl rfl (decide_eq_false (by omega))) ?_ | refine JL.pure rfl (y_gtr rfl rfl (decide_eq_true (by omega))) ?_ | refine JL.pure rfl (y_gtr rfl rfl (decide_eq_false (by omega))) ?_ | refine JL.pure rfl (y_geq rfl rfl (decide_eq_true (by omega))) ?_ | refine JL.pure rfl (y_geq rfl rfl (decide_eq_false (by omega))) ?_ | refine JL.pure rfl (y_eql rfl rfl (decide_eq_true (by omega))) ?_ | refine JL.pure rfl (y_eql rfl rfl (decide_eq_false (by omega))) ?_ | refine JL.pure rfl (y_neq rfl rfl (r := false) (decide_eq_true (by omega))) ?_ | refine JL.pure rfl (y_neq rfl rfl (r := true) (decide_eq_false (by omega))) ?_ | refine JL.pure rfl (y_add rfl rfl (wrap_add (by omega) (by omega))) ?_ | refine JL.pure rfl (y_sub rfl rfl (wrap_add (by omega) (by omega))) ?_ | refine JL.pure rfl (y_index rfl rfl (by omega)) ?_ | refine JL.pure rfl (y_index (j := 0) rfl rfl (by omega)) ?_ | refine JL.was rfl (w_load1 rfl (by assumption)) ?_)
    exact JC.ret (RT.one rfl rfl (by conv => lhs; whnf) ⟨.inr rfl, rfl⟩)
end Go.Proofs.Ytplblpakbkgfeaa
