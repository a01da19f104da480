/- legatelaw11.CacheAnew answers true, and leaves its arguments as they were, at every principal and every two tickets. Condition: what it reads is of bulk at most 1048576 (the statement's own). -/
import Derived.Test.YtplblpakbkgfeaaRows
import Derived.Test.YtplblpakbkgfeaaW6
import Derived.Test.YtplblpakbkgfeaaLgR
import Derived.JoinedCond
set_option linter.unusedVariables false
set_option linter.unusedSimpArgs false
namespace Go.Proofs.Ytplblpakbkgfeaa
open Go.ChangeShapes Go.WideShapes Go.ChangeAt Go.RowKit
theorem own : ownKnob Try.prog.godebug = none := by kernel_rfl
theorem laidOut : laidOutB Try.prog = true := by kernel_rfl
set_option maxRecDepth 100000 in
theorem cacheAnew_lifted (os : Os) (started : os.Started) (H : Type) (enc : TypeId × Value → H) (F : Stop.Interp) :
    ReturnsInHanded {} Try.checked os 4 .any ((Rows.OpenSpec.upto Rows.cacheAnewSpec).pre6 enc Try.prog Try.f4 Rows.cacheAnewUptoRow.domain false) (((Rows.OpenSpec.upto Rows.cacheAnewSpec).at F).post enc Try.prog Try.f4 false true false false) := by
  have hwit : (DataW.whole enc Try.prog (World.plainHolding Try.prog os ⟨#[], #[.agg #[.string ByteArray.empty,.string ByteArray.empty], .agg zcr.toArray, .agg zcr.toArray], []⟩).memory Try.f4.params.toList (Rows.OpenSpec.upto Rows.cacheAnewSpec).vars false #[.agg #[.string ByteArray.empty,.string ByteArray.empty], .agg zcr.toArray, .agg zcr.toArray].toList 8).map (fun x => Rows.uptoSmall H (x.1 ++ x.2.1)) = some true := by kernel_rfl
  obtain ⟨x0, hx0, hs0⟩ := Option.map_eq_some_iff.1 hwit
  refine returnsInHanded_of_cond (C := Try.checked) (s := Rows.OpenSpec.upto Rows.cacheAnewSpec) (k := Rows.uptoSmall) rfl own started (by kernel_rfl) Try.func4
    (OpenSpec.witness (enc := enc) (C := Try.checked) (k := Rows.uptoSmall) rfl false ⟨#[], #[.agg #[.string ByteArray.empty,.string ByteArray.empty], .agg zcr.toArray, .agg zcr.toArray], []⟩ 8 (by kernel_rfl) (by kernel_rfl) (by kernel_rfl) hx0 rfl hs0) ?_
  intro W base args ds gs before hval0 hW hcnd hsm _
  have hval : ∀ (j : Nat) t v, Try.f4.params[j]? = some t → args[j]? = some v → Value.okWide Try.prog W .any base t v := hval0
  have hW' := hW
  obtain ⟨p, q, hA0, hV, rfl, hfz, hnd⟩ := hW
  have hA : DataW.TrodAll enc Try.prog W 0 (fun _ => true) true Try.f4.params.toList args.toList ds p := hA0
  rw [Try.params4] at hA hval
  obtain ⟨v0, vs0, d0, ds0, p0, q0, hargs, rfl, rfl, h0, r0⟩ := trodAll_cons hA
  obtain ⟨v1, vs1, d1, ds1, p1, q1, rfl, rfl, rfl, h1, r1⟩ := trodAll_cons r0
  obtain ⟨v2, vs2, d2, ds2, p2, q2, rfl, rfl, rfl, h2, r2⟩ := trodAll_cons r1
  obtain ⟨rfl, rfl, rfl⟩ := trodAll_nil r2
  obtain rfl : args = #[v0, v1, v2] := by cases args; simp_all
  obtain ⟨rfl, rfl⟩ := trodVars_none hV
  have hbulk : Rows.uptoBulkAll ([d0, d1, d2] ++ []) ≤ 1048576 := of_decide_eq_true hsm
  have k0 := h0
  have lt0 : ∀ x ∈ p0, x.block < W.heap.size := by obtain ⟨m, hm⟩ := k0; exact DataW.trod_lt m _ _ _ hm
  have k1 := h1
  have lt1 : ∀ x ∈ p1, x.block < W.heap.size := by obtain ⟨m, hm⟩ := k1; exact DataW.trod_lt m _ _ _ hm
  have k2 := h2
  have lt2 : ∀ x ∈ p2, x.block < W.heap.size := by obtain ⟨m, hm⟩ := k2; exact DataW.trod_lt m _ _ _ hm
  clear hA0 hval0
  simp only [List.append_nil, Rows.uptoBulkAll] at hbulk
  obtain ⟨f0, hf0⟩ := id k0
  obtain ⟨p, q, hpq, lp, lq⟩ := princ_inB (enc := enc) ⟨f0, _, hf0⟩
  obtain rfl : v0 = .agg #[.string p, .string q] := agg_of1 hpq
  obtain ⟨f1, hf1⟩ := id k1
  obtain ⟨x, dx, hxc, hdx, lx, _, _⟩ := cred_inB (enc := enc) ⟨f1, _, hf1⟩ (by omega)
  obtain rfl : v1 = .agg (x.cells dx).toArray := agg_of1 hxc
  obtain ⟨f2, hf2⟩ := id k2
  obtain ⟨y, dy, hyc, hdy, ly, _, _⟩ := cred_inB (enc := enc) ⟨f2, _, hf2⟩ (by omega)
  obtain rfl : v2 = .agg (y.cells dy).toArray := agg_of1 hyc
  refine (Lg.Calls_of_Tr (P := Try.prog) (CacheAnew_ok (by omega) (by omega) hdx hdy (by omega) (by omega))).mono fun e W' ⟨he, bel⟩ => ?_
  subst he
  exact ⟨_, rfl, _, _, _, [], _, [], hW', trodAll_mk1 (shut_bool Try.underlying4 _), (trodAll_cons_mk (Below.trod laidOut (by kernel_rfl) (of_decide_eq_true (by kernel_rfl)) k0 bel lt0) (trodAll_cons_mk (Below.trod laidOut (by kernel_rfl) (of_decide_eq_true (by kernel_rfl)) k1 bel lt1) (trodAll_cons_mk (Below.trod laidOut (by kernel_rfl) (of_decide_eq_true (by kernel_rfl)) k2 bel lt2) trodAll_mk0))), rfl, bel.frame _, fun h => by cases h⟩
theorem cacheAnew_upto : Rows.CacheAnewUptoSaid :=
  OpenClaim.holds_of_cond 4 Try.f4 rfl rfl rfl rfl rfl rfl rfl ⟨rfl, rfl, rfl, rfl, rfl⟩ rfl rfl rfl rfl rfl (by kernel_rfl) Try.func4 (by kernel_rfl)
    (of_decide_eq_true (by kernel_rfl)) (by unfold Func.isWrapper; first | (rw [if_pos (by decide +kernel)]; kernel_rfl) | (rw [if_neg (by decide +kernel)]; exact ⟨rfl, rfl⟩))
    (fun os started H enc _ F => by rw [OpenClaim.pre_of_none' rfl]; exact cacheAnew_lifted os started H enc F)
#print axioms cacheAnew_upto
end Go.Proofs.Ytplblpakbkgfeaa
