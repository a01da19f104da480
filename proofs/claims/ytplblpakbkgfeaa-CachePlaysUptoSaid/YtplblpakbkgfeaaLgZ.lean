import Derived.Test.YtplblpakbkgfeaaLgY
set_option linter.unusedVariables false
set_option linter.unusedSimpArgs false
namespace Go.Lg
open Go.RowKit
section
variable {P : Program} {ρ : Operand → Value} {d : Option Tmp} {ty : TypeId} {pos : String} {af : Array Edge} {gd : Option (Nat × Bool)} {W : World} {l : List Ent} {Ψ : Value → List Ent → Prop}
theorem y_loadIf {S : World → Prop} {t : TypeId} {x : Operand} {a : Addr} {v : Value} [ha : Agg P t false] (h : ρ x = .pointer (some a)) (hv : ∀ w, S w → w.cell? a = some v) : YldIf P S ⟨d, .load t x, ty, pos, af, gd⟩ ρ v := by
  intro w hw
  simp [execOp, h, Instr.loadAt, Instr.sureAddr, run_loadVar_one P (hv w hw) ha.h]
/-- Where what is read lies: in an entry, or in what was there before. -/
theorem Src.look {r : List Ent} {A : Option Addr} {xs : List Value} (h : Src W r A xs) (h0 : 0 < xs.length) :
    ∃ b o, A = some ⟨b, o, none⟩ ∧ ∃ S : Option Ent, (∀ e, S = some e → e ∈ r) ∧ ∀ j u, xs[j]? = some u → ∀ w, (TS W ([], S)).2 w → w.cell? ⟨b, o + j, none⟩ = some u := by
  rcases h with h | ⟨a, rfl, h⟩ | ⟨g, o, T, ys, p, rfl, h2, h3, h4⟩
  · subst h; simp at h0
  · obtain ⟨b, o, spot⟩ := a
    have hc := h 0 _ (List.getElem?_eq_getElem h0)
    have hspot : spot = none := by simpa [Addr.add] using World.cell?_spot hc
    subst hspot
    refine ⟨b, o, rfl, none, (fun e he => by cases he), fun j u hu w hw => ?_⟩
    have := h j u hu
    rw [addr_add] at this
    exact (Below.cell hw (World.block_lt_of_cell? W _ this)).trans this
  · refine ⟨g, o, rfl, some (g, p), (fun e he => by cases he; exact h2), fun j u hu w hw => ?_⟩
    have hy := h4 j u hu
    rcases h3 with rfl | ⟨tot, rfl⟩
    · obtain ⟨_, hb, fz, rfl, _⟩ := hw
      rw [cell_at hb, List.getElem?_toArray]
      exact hy
    · obtain ⟨_, hb, cur, rfl, _, ht⟩ := hw
      rw [cell_at hb]
      exact row_get ht hy
theorem TOk.opt {D : List Nat} {S : Option Ent} {T : Tq} {listed : Array Bool} {l : List Ent} (hS : ∀ e, S = some e → e ∈ l) (h : TOk T listed l) : TOk ((D, S) :: T) listed l := by
  cases S with
  | none => exact TOk.was h
  | some e => exact TOk.mem (hS e rfl) h
theorem TS_of {r : List Ent} {S : Option Ent} (hS : ∀ e, S = some e → e ∈ r) (hr : ∀ e ∈ r, e ∈ l) : ∀ w, SH W l w → (TS W ([], S)).2 w := fun w hs => by
  cases S with
  | none => exact hs.below
  | some e => exact (hs.ents e (hr e (hS e rfl))).2
/-- A slice as a pointer to an array. -/
theorem y_toArr {t e : TypeId} {x : Operand} {n len cap : Nat} {a : Option Addr} [ht : ArrT P t n e] (hx : ρ x = .slice a len cap) (hn : n ≤ len) : Yld P ⟨d, .sliceToArrayPointer t x, ty, pos, af, gd⟩ ρ (.pointer a) := fun w => by
  simp [execOp, hx, Instr.arrayAt, run_underlying ht.h, show ¬ len < n from by omega]
theorem y_mul256 {t yt : TypeId} {x y : Operand} {a : BitVec 64} (hx : ρ x = w64 a) (hy : ρ y = .int .u64 256) : Yld P ⟨d, .binOp .mul t x y yt, ty, pos, af, gd⟩ ρ (w64 (a <<< 8)) :=
  y_mul hx hy (by
    have := shl_bv (k := .u64) rfl a (n := 8) (by decide)
    have e : (2 : Int) ^ (min ((8 : Nat) : Int).toNat IntKind.u64.bits) = 256 := by decide
    rw [e] at this
    exact this)
end
section
variable {P : Program} {n : Nat} {W : World} {K : Kont} {f : Fr} {l : List Ent} {ops : Array Oper} {T : Tq} {fuel : Nat} {listed : Array Bool}
variable {d : Option Tmp} {op : Op} {ty : TypeId} {pos : String} {af : Array Edge} {gd : Option (Nat × Bool)}
/-- A read of what lies somewhere, in a region that draws its order. -/
theorem JD.readS (i : Nat) {v : Value} (S : Option Ent) (r : List Ent) (hi : ops[i]? = some ⟨d, op, ty, pos, af, gd⟩) (hc : chk ops T listed i = true) (hcr : chkR ops listed i (desc ops i) = true) (hw : wantF ops n f gd = true) (hS : ∀ e, S = some e → e ∈ r) (hr : ∀ e ∈ r, e ∈ l)
    (hy : YldIf P (TS W ([], S)).2 ⟨d, op, ty, pos, af, gd⟩ (ev n f) v) (h : JD P n W ops K ((effs ops (desc ops i), S) :: T) fuel (listed.setIfInBounds i true) (put f d v) l) : JD P n W ops K T (fuel + 1) listed f l :=
  .read_ S (desc ops i) hi hc hcr (.inl ⟨hw, hy⟩) (TS_of hS hr) h
end
/-! ### Two results that lie in variables -/
section
variable {P : Program} {fn : Func} {W : World} {Φ : Value → List Ent → Prop} {n : Nat} {f : Fr} {l : List Ent}
theorem res_cells2 {P : Program} {fn : Func} {t u : Tmp} {T U : Nat} {w : World} {tmps : Array Value} {a b : Addr} {x y : Value} (hr : fn.results = #[.cell t T, .cell u U]) (hp : tmps.getD t undef = .pointer (some a)) (hq : tmps.getD u undef = .pointer (some b)) (h1 : (loadVar T a).run P w = .ok x w) (h2 : (loadVar U b).run P w = .ok y w) :
    (results fn tmps).run P w = .ok (.tuple #[x, y]) w := by
  rw [Array.getD_eq_getD_getElem?] at hp hq
  simp [results, hr, hp, hq, asAddr, h1, h2]
theorem ret_cells2 {t u : Tmp} {T U T' U' b c sz sz' : Nat} {cs es : List Value} (hr : fn.results = #[.cell t T, .cell u U]) {K : Kont} (hK : K.bottom = (Fin P fn W Φ).bottom) [ha : Agg P T true] [hs : Sz P T sz] [ha' : Agg P U true] [hs' : Sz P U sz'] (i j : Nat) (he : l[i]? = some (b, isC T' cs)) (he' : l[j]? = some (c, isC U' es))
    (hp : ev n f (.tmp t) = .pointer (some ⟨b, 0, none⟩)) (hq : ev n f (.tmp u) = .pointer (some ⟨c, 0, none⟩)) (hl : cs.length = sz) (hl' : es.length = sz') {l' : List Ent} (hsub : l'.Sublist l) (h : Φ (.tuple #[.agg cs.toArray, .agg es.toArray]) l') : RT n W K f l := by
  intro w hw
  rw [hK]
  refine fin_ret_sub (fun w hw => ?_) hsub h w hw
  have key : ∀ {T T' sz b k : Nat} {cs : List Value} [ha : Agg P T true] [hs : Sz P T sz], l[k]? = some (b, isC T' cs) → cs.length = sz → (loadVar T ⟨b, 0, none⟩).run P w = .ok (.agg cs.toArray) w := by
    intro T T' sz b k cs ha hs he hl
    obtain ⟨_, ob, hb, fz, rfl, _⟩ := hw.at_ he
    have h1 := run_loadVar_agg P hb ha.h hs.h (o := 0) (by simp only [List.size_toArray]; omega)
    have e1 : cs.toArray.extract 0 (0 + sz) = cs.toArray := by
      rw [← hl]; simp
    rwa [e1] at h1
  have hp' := hp
  rw [← act_getD] at hp'
  have hq' := hq
  rw [← act_getD] at hq'
  exact res_cells2 hr hp' hq' (key he hl) (key he' hl')
end
end Go.Lg
