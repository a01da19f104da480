import Derived.Test.YtplblpakbkgfeaaLgF
set_option linter.unusedVariables false
set_option linter.unusedSimpArgs false
namespace Go.Lg
open Go.RowKit
/-! ### Words: integers without a sign, as vectors of bits -/
theorem wrap_u {k : IntKind} (hs : k.signed = false) (m : Nat) : k.wrap (m : Int) = ((m % 2 ^ k.bits : Nat) : Int) := by
  simp only [IntKind.wrap, hs, Bool.false_and, Bool.false_eq_true, if_false]
  norm_cast
theorem wrap_lt {k : IntKind} (hs : k.signed = false) {m : Nat} (h : m < 2 ^ k.bits) : k.wrap (m : Int) = (m : Int) := by
  rw [wrap_u hs, Nat.mod_eq_of_lt h]
theorem ofInt_toNat {n : Nat} (a : BitVec n) : BitVec.ofInt n (a.toNat : Int) = a := by
  rw [BitVec.ofInt_natCast, BitVec.ofNat_toNat, BitVec.setWidth_eq]
theorem bits_xor {k : IntKind} (hs : k.signed = false) (a b : BitVec k.bits) : bits .xor k a.toNat b.toNat = ((a ^^^ b).toNat : Int) := by
  simp only [bits, ofInt_toNat]
  exact wrap_lt hs (a ^^^ b).isLt
theorem bits_or {k : IntKind} (hs : k.signed = false) (a b : BitVec k.bits) : bits .or k a.toNat b.toNat = ((a ||| b).toNat : Int) := by
  simp only [bits, ofInt_toNat]
  exact wrap_lt hs (a ||| b).isLt
theorem bits_and {k : IntKind} (hs : k.signed = false) (a b : BitVec k.bits) : bits .and k a.toNat b.toNat = ((a &&& b).toNat : Int) := by
  simp only [bits, ofInt_toNat]
  exact wrap_lt hs (a &&& b).isLt
theorem add_bv {k : IntKind} (hs : k.signed = false) (a b : BitVec k.bits) : k.wrap ((a.toNat : Int) + b.toNat) = ((a + b).toNat : Int) := by
  rw [← Int.natCast_add, wrap_u hs, BitVec.toNat_add]
theorem sub_bv {k : IntKind} (hs : k.signed = false) (a b : BitVec k.bits) : k.wrap ((a.toNat : Int) - b.toNat) = ((a - b).toNat : Int) := by
  rw [BitVec.toNat_sub]
  simp only [IntKind.wrap, hs, Bool.false_and, Bool.false_eq_true, if_false]
  have h1 := b.isLt
  have h2 : ((2 ^ k.bits - b.toNat + a.toNat : Nat) : Int) = (a.toNat : Int) - b.toNat + 2 ^ k.bits := by
    have h3 : ((2 ^ k.bits - b.toNat : Nat) : Int) = 2 ^ k.bits - (b.toNat : Int) := by
      rw [Int.natCast_sub (Nat.le_of_lt h1)]; norm_cast
    rw [Int.natCast_add, h3]; omega
  rw [Int.natCast_emod, h2]
  norm_cast
  simp
theorem shl_bv {k : IntKind} (hs : k.signed = false) (a : BitVec k.bits) {n : Nat} (hn : n ≤ k.bits) : k.wrap ((a.toNat : Int) * 2 ^ (min ((n : Int)).toNat k.bits)) = ((a <<< n).toNat : Int) := by
  rw [Int.toNat_natCast, Nat.min_eq_left hn, BitVec.toNat_shiftLeft, Nat.shiftLeft_eq]
  have : (a.toNat : Int) * 2 ^ n = ((a.toNat * 2 ^ n : Nat) : Int) := by norm_cast
  rw [this, wrap_u hs]
theorem shr_bv {k : IntKind} (a : BitVec k.bits) {n : Nat} (hn : n ≤ k.bits) : (a.toNat : Int).fdiv (2 ^ (min ((n : Int)).toNat k.bits)) = ((a >>> n).toNat : Int) := by
  rw [Int.toNat_natCast, Nat.min_eq_left hn, BitVec.toNat_ushiftRight, Nat.shiftRight_eq_div_pow]
  rw [Int.fdiv_eq_ediv_of_nonneg _ (Int.le_of_lt (Int.pow_pos (by decide)))]
  simp [Int.natCast_ediv, Int.natCast_pow]
/-- A word of eight bytes, of four. -/
def w64 (x : BitVec 64) : Value := .int .u64 (x.toNat : Int)
def w32 (x : BitVec 32) : Value := .int .u32 (x.toNat : Int)
section
variable {P : Program} {ρ : Operand → Value} {d : Option Tmp} {ty : TypeId} {pos : String} {af : Array Edge} {gd : Option (Nat × Bool)} {W : World} {l : List Ent} {Ψ : Value → List Ent → Prop}
variable {t yt : TypeId} {x y : Operand}
theorem y_add64 {a b : BitVec 64} (hx : ρ x = w64 a) (hy : ρ y = w64 b) : Yld P ⟨d, .binOp .add t x y yt, ty, pos, af, gd⟩ ρ (w64 (a + b)) := y_add hx hy (add_bv (k := .u64) rfl a b)
theorem y_sub64 {a b : BitVec 64} (hx : ρ x = w64 a) (hy : ρ y = w64 b) : Yld P ⟨d, .binOp .sub t x y yt, ty, pos, af, gd⟩ ρ (w64 (a - b)) := y_sub hx hy (sub_bv (k := .u64) rfl a b)
theorem y_xor64 {a b : BitVec 64} (hx : ρ x = w64 a) (hy : ρ y = w64 b) : Yld P ⟨d, .binOp .xor t x y yt, ty, pos, af, gd⟩ ρ (w64 (a ^^^ b)) := by
  have := y_bits (P := P) (ρ := ρ) (d := d) (ty := ty) (pos := pos) (af := af) (gd := gd) (t := t) (yt := yt) (op := .xor) hx hy (.inr (.inr rfl))
  rwa [show bits .xor .u64 (a.toNat : Int) b.toNat = ((a ^^^ b).toNat : Int) from bits_xor (k := .u64) rfl a b] at this
theorem y_or64 {a b : BitVec 64} (hx : ρ x = w64 a) (hy : ρ y = w64 b) : Yld P ⟨d, .binOp .or t x y yt, ty, pos, af, gd⟩ ρ (w64 (a ||| b)) := by
  have := y_bits (P := P) (ρ := ρ) (d := d) (ty := ty) (pos := pos) (af := af) (gd := gd) (t := t) (yt := yt) (op := .or) hx hy (.inr (.inl rfl))
  rwa [show bits .or .u64 (a.toNat : Int) b.toNat = ((a ||| b).toNat : Int) from bits_or (k := .u64) rfl a b] at this
theorem y_and64 {a b : BitVec 64} (hx : ρ x = w64 a) (hy : ρ y = w64 b) : Yld P ⟨d, .binOp .and t x y yt, ty, pos, af, gd⟩ ρ (w64 (a &&& b)) := by
  have := y_bits (P := P) (ρ := ρ) (d := d) (ty := ty) (pos := pos) (af := af) (gd := gd) (t := t) (yt := yt) (op := .and) hx hy (.inl rfl)
  rwa [show bits .and .u64 (a.toNat : Int) b.toNat = ((a &&& b).toNat : Int) from bits_and (k := .u64) rfl a b] at this
theorem y_andC {k : IntKind} {a b c : Int} (hx : ρ x = .int k a) (hy : ρ y = .int k b) (hc : bits .and k a b = c) : Yld P ⟨d, .binOp .and t x y yt, ty, pos, af, gd⟩ ρ (.int k c) := by
  have := y_bits (P := P) (ρ := ρ) (d := d) (ty := ty) (pos := pos) (af := af) (gd := gd) (t := t) (yt := yt) (op := .and) hx hy (.inl rfl)
  rwa [hc] at this
theorem y_shl64 {a : BitVec 64} {yk : IntKind} {n : Nat} (hx : ρ x = w64 a) (hy : ρ y = .int yk (n : Int)) (hn : n ≤ 64) : Yld P ⟨d, .binOp .shl t x y yt, ty, pos, af, gd⟩ ρ (w64 (a <<< n)) :=
  y_shl hx hy (Int.natCast_nonneg n) (shl_bv (k := .u64) rfl a hn)
theorem y_shr64 {a : BitVec 64} {yk : IntKind} {n : Nat} (hx : ρ x = w64 a) (hy : ρ y = .int yk (n : Int)) (hn : n ≤ 64) : Yld P ⟨d, .binOp .shr t x y yt, ty, pos, af, gd⟩ ρ (w64 (a >>> n)) :=
  y_shr hx hy (Int.natCast_nonneg n) (shr_bv (k := .u64) a hn)
theorem y_eql64 {a b : BitVec 64} {r : Bool} (hx : ρ x = w64 a) (hy : ρ y = w64 b) (hr : decide (a = b) = r) : Yld P ⟨d, .binOp .eql t x y yt, ty, pos, af, gd⟩ ρ (.bool r) :=
  y_eql hx hy (by
    rw [← hr]
    congr 1
    apply propext
    constructor
    · intro h; exact BitVec.eq_of_toNat_eq (by omega)
    · intro h; rw [h])
theorem y_add32 {a b : BitVec 32} (hx : ρ x = w32 a) (hy : ρ y = w32 b) : Yld P ⟨d, .binOp .add t x y yt, ty, pos, af, gd⟩ ρ (w32 (a + b)) := y_add hx hy (add_bv (k := .u32) rfl a b)
theorem y_sub32 {a b : BitVec 32} (hx : ρ x = w32 a) (hy : ρ y = w32 b) : Yld P ⟨d, .binOp .sub t x y yt, ty, pos, af, gd⟩ ρ (w32 (a - b)) := y_sub hx hy (sub_bv (k := .u32) rfl a b)
theorem y_xor32 {a b : BitVec 32} (hx : ρ x = w32 a) (hy : ρ y = w32 b) : Yld P ⟨d, .binOp .xor t x y yt, ty, pos, af, gd⟩ ρ (w32 (a ^^^ b)) := by
  have := y_bits (P := P) (ρ := ρ) (d := d) (ty := ty) (pos := pos) (af := af) (gd := gd) (t := t) (yt := yt) (op := .xor) hx hy (.inr (.inr rfl))
  rwa [show bits .xor .u32 (a.toNat : Int) b.toNat = ((a ^^^ b).toNat : Int) from bits_xor (k := .u32) rfl a b] at this
theorem y_or32 {a b : BitVec 32} (hx : ρ x = w32 a) (hy : ρ y = w32 b) : Yld P ⟨d, .binOp .or t x y yt, ty, pos, af, gd⟩ ρ (w32 (a ||| b)) := by
  have := y_bits (P := P) (ρ := ρ) (d := d) (ty := ty) (pos := pos) (af := af) (gd := gd) (t := t) (yt := yt) (op := .or) hx hy (.inr (.inl rfl))
  rwa [show bits .or .u32 (a.toNat : Int) b.toNat = ((a ||| b).toNat : Int) from bits_or (k := .u32) rfl a b] at this
theorem y_and32 {a b : BitVec 32} (hx : ρ x = w32 a) (hy : ρ y = w32 b) : Yld P ⟨d, .binOp .and t x y yt, ty, pos, af, gd⟩ ρ (w32 (a &&& b)) := by
  have := y_bits (P := P) (ρ := ρ) (d := d) (ty := ty) (pos := pos) (af := af) (gd := gd) (t := t) (yt := yt) (op := .and) hx hy (.inl rfl)
  rwa [show bits .and .u32 (a.toNat : Int) b.toNat = ((a &&& b).toNat : Int) from bits_and (k := .u32) rfl a b] at this
theorem y_shl32 {a : BitVec 32} {yk : IntKind} {n : Nat} (hx : ρ x = w32 a) (hy : ρ y = .int yk (n : Int)) (hn : n ≤ 32) : Yld P ⟨d, .binOp .shl t x y yt, ty, pos, af, gd⟩ ρ (w32 (a <<< n)) :=
  y_shl hx hy (Int.natCast_nonneg n) (shl_bv (k := .u32) rfl a hn)
theorem y_shr32 {a : BitVec 32} {yk : IntKind} {n : Nat} (hx : ρ x = w32 a) (hy : ρ y = .int yk (n : Int)) (hn : n ≤ 32) : Yld P ⟨d, .binOp .shr t x y yt, ty, pos, af, gd⟩ ρ (w32 (a >>> n)) :=
  y_shr hx hy (Int.natCast_nonneg n) (shr_bv (k := .u32) a hn)
theorem y_eql32 {a b : BitVec 32} {r : Bool} (hx : ρ x = w32 a) (hy : ρ y = w32 b) (hr : decide (a = b) = r) : Yld P ⟨d, .binOp .eql t x y yt, ty, pos, af, gd⟩ ρ (.bool r) :=
  y_eql hx hy (by
    rw [← hr]
    congr 1
    apply propext
    constructor
    · intro h; exact BitVec.eq_of_toNat_eq (by omega)
    · intro h; rw [h])
/-- A natural number as a word. -/
theorem y_conv64 {s : TypeId} {k k0 : IntKind} {n : Nat} [hs : IntT P s k0] [ht : IntT P t .u64] (hx : ρ x = .int k (n : Int)) : Yld P ⟨d, .convert s t x, ty, pos, af, gd⟩ ρ (w64 (BitVec.ofNat 64 n)) :=
  y_conv hx (by rw [wrap_u rfl, BitVec.toNat_ofNat]; rfl)
theorem y_conv32 {s : TypeId} {k k0 : IntKind} {n : Nat} [hs : IntT P s k0] [ht : IntT P t .u32] (hx : ρ x = .int k (n : Int)) : Yld P ⟨d, .convert s t x, ty, pos, af, gd⟩ ρ (w32 (BitVec.ofNat 32 n)) :=
  y_conv hx (by rw [wrap_u rfl, BitVec.toNat_ofNat]; rfl)
theorem y_conv8 {s : TypeId} {k k0 : IntKind} {n : Nat} [hs : IntT P s k0] [ht : IntT P t .u8] (hx : ρ x = .int k (n : Int)) : Yld P ⟨d, .convert s t x, ty, pos, af, gd⟩ ρ (bv (UInt8.ofNat n)) :=
  y_conv hx (by rw [wrap_u rfl]; simp [IntKind.bits])
/-- xor of bytes. -/
theorem y_xor8 {a b : UInt8} (hx : ρ x = bv a) (hy : ρ y = bv b) : Yld P ⟨d, .binOp .xor t x y yt, ty, pos, af, gd⟩ ρ (bv (a ^^^ b)) := by
  have := y_bits (P := P) (ρ := ρ) (d := d) (ty := ty) (pos := pos) (af := af) (gd := gd) (t := t) (yt := yt) (op := .xor) hx hy (.inr (.inr rfl))
  rwa [show bits .xor .u8 (a.toNat : Int) b.toNat = ((a ^^^ b).toNat : Int) from bits_xor (k := .u8) rfl a.toBitVec b.toBitVec] at this
/-! ### A piece of an array -/
theorem y_sliceA {e : TypeId} {lo hi : Option Operand} {b o n sz p q : Nat} [ht : ArrT P t n e] [hs : Sz P e sz] (hx : ρ x = .pointer (some ⟨b, o, none⟩))
    (hlo : match lo with | none => p = 0 | some y => ∃ k, ρ y = .int k (p : Int)) (hhi : match hi with | none => q = n | some y => ∃ k, ρ y = .int k (q : Int)) (hpq : p ≤ q) (hqn : q ≤ n) (hpn : p < n) :
    Yld P ⟨d, .slice t x lo hi none, ty, pos, af, gd⟩ ρ (.slice (some ⟨b, o + p * sz, none⟩) (q - p) (n - p)) := fun w => by
  have e1 : (Instr.sliceBounds false n n (lo.map ρ) (hi.map ρ) none).run P w = .ok (p, q, n) w := by
    cases lo with
    | none =>
      subst hlo
      cases hi with
      | none => subst hhi; simp [Instr.sliceBounds]
      | some y => obtain ⟨k, hk⟩ := hhi; simp [Instr.sliceBounds, Instr.sliceBound, hk, asIntOf, hqn]
    | some z =>
      obtain ⟨k', hk'⟩ := hlo
      cases hi with
      | none => subst hhi; simp [Instr.sliceBounds, Instr.sliceBound, hk', asIntOf, hpq]
      | some y => obtain ⟨k, hk⟩ := hhi; simp [Instr.sliceBounds, Instr.sliceBound, hk, hk', asIntOf, hqn, hpq]
  have e2 : (Instr.sliceAt t (.pointer (some ⟨b, o, none⟩)) (lo.map ρ) (hi.map ρ) none).run P w = .ok (.slice (some ⟨b, o + p * sz, none⟩) (q - p) (n - p)) w := by
    simp only [Instr.sliceAt, Sem.run_bind, run_underlying ht.h, Result.andThen_ok, Instr.sureAddr, Sem.run_pure, e1, run_sizeOf hs.h]
    simp [addr_add, show ¬ n = p from by omega]
  simp [execOp, hx, e2]
theorem y_cap {e : TypeId} {a : Option Addr} {len cap : Nat} [ht : SliceT P t e] (hx : ρ x = .slice a len cap) : Yld P ⟨d, .call { callee := .builtin .cap, args := #[x], argTypes := #[t] }, ty, pos, af, gd⟩ ρ (.int .i64 (cap : Int)) := fun w => by
  simp [execOp, resolve, invoke, builtin, Builtin.cap_, hx, run_underlying ht.h, goInt]
/-! ### Reading where something lies, wherever that is -/
theorem Src.at_ {r : List Ent} {A : Option Addr} {xs : List Value} (h : Src W r A xs) (h0 : 0 < xs.length) : ∃ b o, A = some ⟨b, o, none⟩ ∧ ∀ l, (∀ e ∈ r, e ∈ l) → ∀ w, SH W l w → ∀ j u, xs[j]? = some u → w.cell? ⟨b, o + j, none⟩ = some u := by
  rcases h with h | ⟨a, rfl, h⟩ | ⟨g, o, T, ys, p, rfl, h2, h3, h4⟩
  · subst h; simp at h0
  · obtain ⟨b, o, spot⟩ := a
    have hc := h 0 _ (List.getElem?_eq_getElem h0)
    have hspot : spot = none := by simpa [Addr.add] using World.cell?_spot hc
    subst hspot
    refine ⟨b, o, rfl, fun l _ w hs j u hu => ?_⟩
    have := h j u hu
    rw [addr_add] at this
    exact (Below.cell hs.below (World.block_lt_of_cell? W _ this)).trans this
  · refine ⟨g, o, rfl, fun l hl w hs j u hu => ?_⟩
    have hr := Src.rd (.inr (.inr ⟨g, o, T, ys, p, rfl, h2, h3, h4⟩) : Src W r (some ⟨g, o, none⟩) xs) hl
    rcases hr with h0' | ⟨a, ha, hc⟩
    · subst h0'; simp at h0
    · cases ha
      have := hc w hs j u hu
      rwa [addr_add] at this
theorem e_loadS {a : Addr} {u : Value} [ha : Agg P t false] (hx : ρ x = .pointer (some a)) (hc : ∀ w, SH W l w → w.cell? a = some u) (h : Ψ u l) : Eff P W l ⟨d, .load t x, ty, pos, af, gd⟩ ρ Ψ := by
  intro w hw
  unfold OpW
  simp only [execOp, hx, Instr.loadAt, Instr.sureAddr, Sem.run_bind, Sem.run_pure, Result.andThen_ok, run_loadVar_one P (hc w hw) ha.h]
  exact ⟨_, hw, h⟩
/-! ### append(nil, make(n)...) -/
theorem e_growNil {e u : TypeId} {by_ n : Nat} {z : Value} {s : Operand} {k ku : IntKind} [ht : SliceT P t e] [hi : RowT P e 1 by_] [hz : Zr P e [z]] [hu : IntT P u ku]
    (hx : ρ s = .slice none 0 0) (hy : ρ x = .int k (n : Int)) (h0 : 0 < n) (hb : n * by_ ≤ 140737488355328) (h63 : n ≤ maxLen)
    (h : ∀ b cap, n ≤ cap → cap ≤ maxLen → Ψ (.slice (some ⟨b, 0, none⟩) n cap) ((b, isR e (cap * 1) []) :: l)) : Eff P W l ⟨d, .call { callee := .builtin .append, args := #[s, x], argTypes := #[t, u] }, ty, pos, af, gd⟩ ρ Ψ := by
  intro w hw
  obtain ⟨i, zv, hi1, hi2, hi3, hi4, hi5, hi6⟩ := rowB_spec hi.h
  have h63' : n ≤ 9223372036854775807 := by simp only [maxLen] at h63; omega
  have hwr : IntKind.i64.wrap (n : Int) = (n : Int) := wrap_add (by omega) (by omega)
  have hn : ¬ n = 0 := by omega
  have hb' : ¬ (281474976710656 < (n : Int) * (i.bytes : Int)) := by
    rw [hi4, ← Int.natCast_mul]
    omega
  have h48' : ¬ (281474976710656 < Builtin.nextslicecap n 0 * i.bytes) := by rw [nextslicecap_zero h0, hi4]; omega
  have hge := grownCap_ge w n 0 e
  have hcm := grownCap_le_maxLen w n 0 e h63
  have hr : (Builtin.append_ #[t, u] ty #[.slice none 0 0, .int k (n : Int)]).run P w =
      .ok (.slice (some ⟨w.heap.size, 0, none⟩) n (grownCap w n 0 e)) (w.drew.alloc (.cells (Builtin.zeroCells zv.cells n ++ Builtin.zeroCells zv.cells (grownCap w n 0 e - n)) e)) := by
    have h63'' : ¬ (9223372036854775807 < (n : Int)) := by omega
    simp [Builtin.append_, run_underlying ht.h, run_underlying hu.h, sizeOf, typeInfo, zeroValue, hi1, hi2, hi3, asInt, asIntOf, hwr, show ¬ ((n : Int) < 0) from by omega, hb', hn, h63'', h48', Question.forced, run_firstCells_none, newRow, grownCap]
  unfold OpW
  simp only [execOp, resolve, Sem.run_bind, Sem.run_pure, Result.andThen_ok, invoke, builtin, List.map_toArray, List.map_cons, List.map_nil, hx, hy, hr]
  refine ⟨_, hw.drew.alloc _ (p := isR e (grownCap w n 0 e * 1) []) ?_, h _ _ hge hcm⟩
  refine ⟨_, rfl, ?_, by simp⟩
  simp only [Array.size_append, size_zeroCells, hi5]
  omega
end
/-! ### Pieces of what lies somewhere -/
theorem Src.sub {W : World} {r : List Ent} {b o : Nat} {xs ys : List Value} (h : Src W r (some ⟨b, o, none⟩) xs) (k : Nat) (hx : ∀ j u, ys[j]? = some u → xs[k + j]? = some u) : Src W r (some ⟨b, o + k, none⟩) ys := by
  rcases h with h | ⟨a, ha, h⟩ | ⟨g, o', T, zs, p, h1, h2, h3, h4⟩
  · subst h
    refine .inl (List.eq_nil_iff_forall_not_mem.2 fun u hu => ?_)
    obtain ⟨j, hj⟩ := List.mem_iff_getElem?.1 hu
    have := hx j u hj
    simp at this
  · cases ha
    refine .inr (.inl ⟨_, rfl, fun j u hu => ?_⟩)
    have := h (k + j) u (hx j u hu)
    rw [addr_add] at this ⊢
    rw [Nat.add_assoc]
    exact this
  · cases h1
    exact .inr (.inr ⟨_, _, T, zs, p, rfl, h2, h3, fun j u hu => by rw [Nat.add_assoc]; exact h4 _ _ (hx j u hu)⟩)
theorem Src.take {W : World} {r : List Ent} {A : Option Addr} {xs : List Value} (h : Src W r A xs) (k : Nat) : Src W r A (xs.take k) := by
  have hx : ∀ j u, (xs.take k)[j]? = some u → xs[j]? = some u := fun j u hu => by
    rw [List.getElem?_take] at hu
    split at hu
    · exact hu
    · cases hu
  rcases h with h | ⟨a, ha, h⟩ | ⟨g, o', T, zs, p, h1, h2, h3, h4⟩
  · subst h; exact .inl (by simp)
  · exact .inr (.inl ⟨a, ha, fun j u hu => h j u (hx j u hu)⟩)
  · exact .inr (.inr ⟨g, o', T, zs, p, h1, h2, h3, fun j u hu => h4 j u (hx j u hu)⟩)
theorem Src.drop {W : World} {r : List Ent} {b o : Nat} {xs : List Value} (h : Src W r (some ⟨b, o, none⟩) xs) (k : Nat) : Src W r (some ⟨b, o + k, none⟩) (xs.drop k) :=
  h.sub k fun j u hu => by rwa [List.getElem?_drop] at hu
/-- x[k:], as 'y_sliceFrom' has it. -/
theorem Src.from_ {W : World} {r : List Ent} {b o cap : Nat} {xs : List Value} (h : Src W r (some ⟨b, o, none⟩) xs) (hc : xs.length ≤ cap) (k : Nat) :
    Src W r (if cap = k then some ⟨b, o, none⟩ else some ⟨b, o + k * 1, none⟩) (xs.drop k) := by
  by_cases hk : cap = k
  · rw [if_pos hk, List.drop_of_length_le (by omega)]
    exact Src.nil ..
  · rw [if_neg hk, Nat.mul_one]
    exact h.drop k
theorem spl_one : ∀ (cs : List Value) (o : Nat) (v : Value), spl cs o [v] = cs.set o v
  | [], _, _ => rfl
  | c :: cs, 0, v => by simp [spl]
  | c :: cs, o + 1, v => by simp [spl, spl_one cs o v]
theorem spl_all : ∀ (cs vs : List Value), cs.length = vs.length → spl cs 0 vs = vs
  | [], [], _ => rfl
  | c :: cs, v :: vs, h => by simp [spl, spl_all cs vs (by simpa using h)]
/-- The first i of them, and noughts: so many in all. -/
def pad (n : Nat) (bs : List UInt8) (i : Nat) : List UInt8 := bs.take i ++ List.replicate (n - i) 0
theorem pad_len {n i : Nat} {bs : List UInt8} (h1 : i ≤ n) (h2 : i ≤ bs.length) : (pad n bs i).length = n := by simp [pad]; omega
theorem pad_step {n i : Nat} {bs : List UInt8} (h1 : i < n) (h2 : i < bs.length) : spl ((pad n bs i).map bv) (0 + i * 1) [bv (bs[i]'h2)] = (pad n bs (i + 1)).map bv := by
  rw [spl_one, Nat.mul_one, Nat.zero_add]
  have e1 : pad n bs i = bs.take i ++ (0 :: List.replicate (n - (i + 1)) 0) := by
    unfold pad
    rw [show n - i = (n - (i + 1)) + 1 from by omega, List.replicate_succ]
  have e2 : pad n bs (i + 1) = bs.take i ++ (bs[i]'h2 :: List.replicate (n - (i + 1)) 0) := by
    unfold pad
    rw [List.take_succ_eq_append_getElem h2, List.append_assoc]
    rfl
  rw [e1, e2, List.map_append, List.map_append, List.map_cons, List.map_cons, List.set_append]
  simp [Nat.min_eq_left (Nat.le_of_lt h2)]
/-! ### Rows of bytes -/
def RowsAt (W : World) (r : List Ent) (A : Option Addr) (bss : List (List UInt8)) : Prop :=
  ∃ hs : List Value, hs.length = bss.length ∧ Src W r A hs ∧ ∀ (i : Nat) (bs : List UInt8), bss[i]? = some bs → ∃ (Ai : Option Addr) (c : Nat), hs[i]? = some (Value.slice Ai bs.length c) ∧ Src W r Ai (bs.map bv) ∧ (Ai = none → bs.length = 0 ∧ c = 0)
theorem RowsAt.mono {W : World} {r r' : List Ent} {A : Option Addr} {bss : List (List UInt8)} (h : RowsAt W r A bss) (hr : ∀ e ∈ r, e ∈ r') : RowsAt W r' A bss := by
  obtain ⟨hs, h1, h2, h3⟩ := h
  refine ⟨hs, h1, h2.mono hr, fun i bs hb => ?_⟩
  obtain ⟨Ai, c, h4, h5, h6⟩ := h3 i bs hb
  exact ⟨Ai, c, h4, h5.mono hr, h6⟩
/-- x[lo:hi], wherever x lies, and if it is nil. -/
theorem y_sliceG {P : Program} {ρ : Operand → Value} {d : Option Tmp} {ty : TypeId} {pos : String} {af : Array Edge} {gd : Option (Nat × Bool)} {t e : TypeId} {x : Operand} {lo hi : Option Operand} {A : Option Addr} {len cap sz l h : Nat} [ht : SliceT P t e] [hs : Sz P e sz] (hx : ρ x = .slice A len cap)
    (hlo : match lo with | none => l = 0 | some y => ∃ k, ρ y = .int k (l : Int)) (hhi : match hi with | none => h = len | some y => ∃ k, ρ y = .int k (h : Int)) (hlh : l ≤ h) (hhc : h ≤ cap) :
    Yld P ⟨d, .slice t x lo hi none, ty, pos, af, gd⟩ ρ (.slice (if cap = l then A else A.map (·.add (l * sz))) (h - l) (cap - l)) := fun w => by
  have e1 : (Instr.sliceBounds true len cap (lo.map ρ) (hi.map ρ) none).run P w = .ok (l, h, cap) w := by
    cases lo with
    | none =>
      subst hlo
      cases hi with
      | none => subst hhi; simp [Instr.sliceBounds]
      | some y => obtain ⟨k, hk⟩ := hhi; simp [Instr.sliceBounds, Instr.sliceBound, hk, asIntOf, hhc]
    | some z =>
      obtain ⟨k', hk'⟩ := hlo
      cases hi with
      | none => subst hhi; simp [Instr.sliceBounds, Instr.sliceBound, hk', asIntOf, hlh]
      | some y => obtain ⟨k, hk⟩ := hhi; simp [Instr.sliceBounds, Instr.sliceBound, hk, hk', asIntOf, hhc, hlh]
  have e2 : (Instr.sliceAt t (.slice A len cap) (lo.map ρ) (hi.map ρ) none).run P w = .ok (.slice (if cap = l then A else A.map (·.add (l * sz))) (h - l) (cap - l)) w := by
    simp only [Instr.sliceAt, Sem.run_bind, run_underlying ht.h, Result.andThen_ok, Instr.slice, e1, run_sizeOf hs.h]
    simp
  simp [execOp, hx, e2]
theorem Src.fromG {W : World} {r : List Ent} {A : Option Addr} {cap : Nat} {xs : List Value} (h : Src W r A xs) (hc : xs.length ≤ cap) (k : Nat) :
    Src W r (if cap = k then A else A.map (·.add (k * 1))) (xs.drop k) := by
  rcases Nat.eq_zero_or_pos xs.length with h0 | h0
  · rw [List.eq_nil_of_length_eq_zero h0, List.drop_nil]
    exact Src.nil ..
  · obtain ⟨b, o, rfl, -⟩ := h.at_ h0
    have := h.from_ hc k
    simpa [addr_add] using this
end Go.Lg
