/- What the law of the whole stands on, part 3 of 6: the heap as it lies, and a contract for each function that the law reaches. -/
import Derived.Laws.IdiomCopy
import Derived.Defers
import Derived.Laws.LoneSync
import Derived.Test.YtbalcgjphkdecaaGreatDoorK2
set_option linter.unusedVariables false
set_option linter.unusedSimpArgs false
namespace Go.Proofs.YtbalcgjphkdecaaGreatDoor.To
open Go.RowKit Go.Lg
set_option maxRecDepth 100000
attribute [local irreducible] JC JL JD RN RT Eff Yld YldIf Tr partsL okR splitL wordB joinD fit betweenS laidS viaS De.wrapB De.num De.clampI prB tkB intB octB texB
theorem IsPrinc_yes {p : P2} (h : okP p) {W : World} {l : List Ent} : Tr Pg 75 #[pv p] W l fun v l' => v = .bool true ∧ l' = l :=
 (IsPrinc_ok h.2.1).mono fun v l' x => ⟨by rw [x.1, h.2.2], x.2⟩
theorem isBlobV {v : Value} {bs : Bs} (h : okBlob bs) {W : World} {r l : List Ent} (hv : BV W r v bs) : Tr Pg 154 #[v] W l fun v l' => v = .bool true ∧ l' = l := by
 obtain ⟨A, c, rfl, -⟩ := hv
 exact isBlob_yes h.1 h.2
set_option maxHeartbeats 4000000 in
theorem is_yes {m : Mg} (hg : m.good) {w1 w2 : Value} {W : World} {l : List Ent} (h : m.at_ W l w1 w2) : Tr Pg 122 #[.agg (m.cells w1 w2).toArray] W l fun v l' => v = .bool true ∧ l' = l := by
 obtain ⟨h1, h2⟩ := h
 refine Tr.of_code (args := [_]) Tryz.func122 rfl Tryz.ntmps122 lE_ ?_
 cases m with
 | aq q =>
  obtain ⟨g1, g2, g3, g4⟩ := hg
  refine AU0 ?_
  refine JLs (e_box (cs := (Mg.aq q).cells w1 w2) rfl rfl fun bx => ?_)
  refine AU1 ?_
  refine JLs (e_alloc fun bq => ?_)
  refine AU1 ?_
  refine JLs (e_store 0 rfl rfl rfl (vs := [sv q.cl.1, sv q.cl.2, sv q.sv_.1, sv q.sv_.2, iv q.till, iv q.nc]) rfl rfl rfl lE_ ?_)
  refine JL.cast (l' := (bq, isC 199 [sv q.cl.1, sv q.cl.2, sv q.sv_.1, sv q.sv_.2, iv q.till, iv q.nc]) :: (bx, isC 207 ((Mg.aq q).cells w1 w2)) :: l) rfl ?_
  refine AU1 ?_
  refine JLs (e_call rfl rfl (IsPrinc_yes (p := q.cl) g1) ?_)
  rintro v l' ⟨rfl, rfl⟩
  refine AU3 ?_
  refine JLs (e_call rfl rfl (IsPrinc_yes (p := q.sv_) g2) ?_)
  rintro v l' ⟨rfl, rfl⟩
  refine AU3 ?_
  refine JLs (e_buildSlice (cells := [iv q.till]) [iv q.till] rfl lE_ rfl (by simp [Value.cells]) rfl fun bs => ?_)
  refine AU1 ?_
  refine JLs (e_call rfl rfl (areTimes_yes (zs := [q.till]) rfl lE_ (by simpa using g3) (Src.whole (List.mem_cons_self ..))) ?_)
  rintro v l' ⟨rfl, rfl⟩
  refine AU3 ?_
  refine JLs (e_call rfl rfl (isNonce_yes g4) ?_)
  rintro v l' ⟨rfl, rfl⟩
  refine AU3 ?_
  refine JLs (e_call rfl rfl (others_yes (v1 := w1) (v2 := w2) ⟨h1.mono fun e he => by simp [he], h2.mono fun e he => by simp [he]⟩) ?_)
  rintro v l' ⟨rfl, rfl⟩
  refine AU0 ?_
  refine JC.sub (l' := l) (by repeat (first | exact List.Sublist.refl _ | apply List.Sublist.append_left | apply List.Sublist.cons | refine List.Sublist.trans ?_ (List.sublist_append_right _ _))) (JC.ret (RT.one rfl rfl rfl ⟨rfl, rfl⟩))
 | tg q =>
  obtain ⟨g1, g2, g3, g4, g5⟩ := hg
  refine AU0 ?_
  refine JLs (e_box (cs := (Mg.tg q).cells w1 w2) rfl rfl fun bx => ?_)
  refine AU1 ?_
  refine JLs (e_alloc fun bq => ?_)
  refine AU1 ?_
  refine JLs (e_store 0 rfl rfl rfl (vs := [sv q.tk.sv_.1, sv q.tk.sv_.2, iv q.tk.kv, w1, w2, sv q.sv_.1, sv q.sv_.2, iv q.till, iv q.nc]) rfl rfl (by obtain ⟨_, _, rfl, -⟩ := h1; obtain ⟨_, _, rfl, -⟩ := h2; rfl) lE_ ?_)
  refine JL.cast (l' := (bq, isC 201 [sv q.tk.sv_.1, sv q.tk.sv_.2, iv q.tk.kv, w1, w2, sv q.sv_.1, sv q.sv_.2, iv q.till, iv q.nc]) :: (bx, isC 207 ((Mg.tg q).cells w1 w2)) :: l) rfl ?_
  refine AU1 ?_
  refine JLs (e_call rfl rfl (isTicket_yes (t := q.tk) (v := w1) g1.ok (h1.mono fun e he => by simp [he])) ?_)
  rintro v l' ⟨rfl, rfl⟩
  refine AU3 ?_
  refine JLs (e_call rfl rfl (isBlobV (v := w2) g2 h2) ?_)
  rintro v l' ⟨rfl, rfl⟩
  refine AU3 ?_
  refine JLs (e_call rfl rfl (IsPrinc_yes (p := q.sv_) g3) ?_)
  rintro v l' ⟨rfl, rfl⟩
  refine AU3 ?_
  refine JLs (e_buildSlice (cells := [iv q.till]) [iv q.till] rfl lE_ rfl (by simp [Value.cells]) rfl fun bs => ?_)
  refine AU1 ?_
  refine JLs (e_call rfl rfl (areTimes_yes (zs := [q.till]) rfl lE_ (by simpa using g4) (Src.whole (List.mem_cons_self ..))) ?_)
  rintro v l' ⟨rfl, rfl⟩
  refine AU3 ?_
  refine JLs (e_call rfl rfl (isNonce_yes g5) ?_)
  rintro v l' ⟨rfl, rfl⟩
  refine AU3 ?_
  refine JLs (e_call rfl rfl (others_yes (v1 := w1) (v2 := w2) ⟨h1.mono fun e he => by simp [he], h2.mono fun e he => by simp [he]⟩) ?_)
  rintro v l' ⟨rfl, rfl⟩
  refine AU0 ?_
  refine JC.sub (l' := l) (by repeat (first | exact List.Sublist.refl _ | apply List.Sublist.append_left | apply List.Sublist.cons | refine List.Sublist.trans ?_ (List.sublist_append_right _ _))) (JC.ret (RT.one rfl rfl rfl ⟨rfl, rfl⟩))
 | rep q =>
  obtain ⟨g1, g2, g3⟩ := hg
  refine AU0 ?_
  refine JLs (e_box (cs := (Mg.rep q).cells w1 w2) rfl rfl fun bx => ?_)
  refine AU1 ?_
  refine JLs (e_call rfl rfl (IsPrinc_yes (p := q.cl) g1) ?_)
  rintro v l' ⟨rfl, rfl⟩
  refine AU3 ?_
  refine JLs (e_call rfl rfl (isTicket_yes (t := q.tk) (v := w1) g2.ok (h1.mono fun e he => by simp [he])) ?_)
  rintro v l' ⟨rfl, rfl⟩
  refine AU3 ?_
  refine JLs (e_call rfl rfl (isBlobV (v := w2) g3 h2) ?_)
  rintro v l' ⟨rfl, rfl⟩
  refine AU3 ?_
  refine JLs (e_call rfl rfl (others_yes (v1 := w1) (v2 := w2) ⟨h1.mono fun e he => by simp [he], h2.mono fun e he => by simp [he]⟩) ?_)
  rintro v l' ⟨rfl, rfl⟩
  refine AU0 ?_
  refine JC.sub (l' := l) (by repeat (first | exact List.Sublist.refl _ | apply List.Sublist.append_left | apply List.Sublist.cons | refine List.Sublist.trans ?_ (List.sublist_append_right _ _))) (JC.ret (RT.one rfl rfl rfl ⟨rfl, rfl⟩))
 | ap q =>
  obtain ⟨g1, g2⟩ := hg
  refine AU0 ?_
  refine JLs (e_box (cs := (Mg.ap q).cells w1 w2) rfl rfl fun bx => ?_)
  refine AU1 ?_
  refine JLs (e_call rfl rfl (isTicket_yes (t := q.tk) (v := w1) g1.ok (h1.mono fun e he => by simp [he])) ?_)
  rintro v l' ⟨rfl, rfl⟩
  refine AU3 ?_
  refine JLs (e_call rfl rfl (isBlobV (v := w2) g2 h2) ?_)
  rintro v l' ⟨rfl, rfl⟩
  refine AU3 ?_
  refine JLs (e_call rfl rfl (others_yes (v1 := w1) (v2 := w2) ⟨h1.mono fun e he => by simp [he], h2.mono fun e he => by simp [he]⟩) ?_)
  rintro v l' ⟨rfl, rfl⟩
  refine AU0 ?_
  refine JC.sub (l' := l) (by repeat (first | exact List.Sublist.refl _ | apply List.Sublist.append_left | apply List.Sublist.cons | refine List.Sublist.trans ?_ (List.sublist_append_right _ _))) (JC.ret (RT.one rfl rfl rfl ⟨rfl, rfl⟩))
theorem Octets_bv {v : Value} {bs : Bs} (hb : bs.length ≤ 2000) {W : World} {r : List Ent} (hv : BV W r v bs) : Tr Pg 158 #[v] W r fun v l' => ∃ le, OwnB v (octB bs) le ∧ l' = le ++ r := by
 obtain ⟨A, c, rfl, hs, hc, hn⟩ := hv
 have := De.Octets_ok (W := W) (r := r) (ps := bs) rfl (by omega) hn hs
 unfold octB
 exact this
theorem Int_bv (n : Int) {W : World} {r : List Ent} : Tr Pg 148 #[iv n] W r fun v l' => ∃ le, OwnB v (intB n) le ∧ l' = le ++ r := by
 have := De.Int_ok (W := W) (r := r) n
 unfold intB
 exact this
theorem Text_bv {s : S} (h : s.length ≤ 2000) {W : World} {r : List Ent} : Tr Pg 203 #[sv s] W r fun v l' => ∃ le, OwnB v (texB s) le ∧ l' = le ++ r := by
 have := De.Text_ok (W := W) (r := r) (ps := s) (by omega)
 unfold texB
 exact this
set_option maxHeartbeats 4000000 in
theorem laid_mg {m : Mg} (hg : m.good) {w1 w2 : Value} {W : World} {l : List Ent} (h : m.at_ W l w1 w2) : Tr Pg 124 #[.agg (m.cells w1 w2).toArray] W l fun v l' => ∃ le, OwnB v m.byts le ∧ l' = le ++ l := by
 obtain ⟨h1, h2⟩ := h
 refine Tr.of_code (args := [_]) Tryz.func124 rfl Tryz.ntmps124 lE_ ?_
 cases m with
 | aq q =>
  obtain ⟨g1, g2, g3, g4⟩ := hg
  have b1 := prB_le g1.1
  have b2 := prB_le g2.1
  have b3 := intB_le q.till
  have b4 := intB_le q.nc
  refine AU0 ?_
  refine JLs (e_box (cs := (Mg.aq q).cells w1 w2) rfl rfl fun bx => ?_)
  refine AU1 ?_
  refine JLs (e_alloc fun bq => ?_)
  refine AU1 ?_
  refine JLs (e_store 0 rfl rfl rfl (vs := [sv q.cl.1, sv q.cl.2, sv q.sv_.1, sv q.sv_.2, iv q.till, iv q.nc]) rfl rfl rfl lE_ ?_)
  refine JL.cast (l' := (bq, isC 199 [sv q.cl.1, sv q.cl.2, sv q.sv_.1, sv q.sv_.2, iv q.till, iv q.nc]) :: (bx, isC 207 ((Mg.aq q).cells w1 w2)) :: l) rfl ?_
  refine AU1 ?_
  refine JC.drawn 15 rfl mixed ?_
  refine JDp 0 rfl (y_fieldAddr rfl) ?_
  refine JDr 1 0 rfl rfl (r_loadA rfl lE_ rfl) ?_
  refine JDp 3 rfl (y_fieldAddr rfl) ?_
  refine JDr 4 0 rfl rfl (r_loadA rfl lE_ rfl) ?_
  refine JDp 6 rfl (y_fieldAddr rfl) ?_
  refine JDr 7 0 rfl rfl (r_load1 rfl rfl) ?_
  refine JDp 9 rfl (y_fieldAddr rfl) ?_
  refine JDr 10 0 rfl rfl (r_load1 rfl rfl) ?_
  refine JDe 2 rfl (e_call rfl rfl (princ_ok (p := q.cl) g1.1) ?_)
  rintro v l' ⟨le1, ho1, rfl⟩
  obtain ⟨A1, c1, rfl, hs1, hc1, hn1⟩ := De.own_src (W := W) ho1
  refine ⟨tok_, ?_⟩
  refine JDe 5 rfl (e_call rfl rfl (princ_ok (p := q.sv_) g2.1) ?_)
  rintro v l' ⟨le2, ho2, rfl⟩
  obtain ⟨A2, c2, rfl, hs2, hc2, hn2⟩ := De.own_src (W := W) ho2
  refine ⟨tok_, ?_⟩
  refine JDe 8 rfl (e_call rfl rfl (Int_bv q.till) ?_)
  rintro v l' ⟨le3, ho3, rfl⟩
  obtain ⟨A3, c3, rfl, hs3, hc3, hn3⟩ := De.own_src (W := W) ho3
  refine ⟨tok_, ?_⟩
  refine JDe 11 rfl (e_call rfl rfl (Int_bv q.nc) ?_)
  rintro v l' ⟨le4, ho4, rfl⟩
  obtain ⟨A4, c4, rfl, hs4, hc4, hn4⟩ := De.own_src (W := W) ho4
  refine ⟨tok_, ?_⟩
  refine JDe 12 rfl (e_buildSlice (cells := [.slice A1 (prB q.cl).length c1, .slice A2 (prB q.sv_).length c2, .slice A3 (intB q.till).length c3, .slice A4 (intB q.nc).length c4]) [.slice A1 (prB q.cl).length c1, .slice A2 (prB q.sv_).length c2, .slice A3 (intB q.till).length c3, .slice A4 (intB q.nc).length c4] rfl lE_ rfl (by simp [Value.cells]) rfl fun b2 => ⟨tok_, ?_⟩)
  refine JDe 13 rfl (e_call rfl rfl (De.Wrap_ok 106 (bss := [prB q.cl, prB q.sv_, intB q.till, intB q.nc]) rfl (by unfold maxLen; decide) (rowsL [(A1, c1, prB q.cl), (A2, c2, prB q.sv_), (A3, c3, intB q.till), (A4, c4, intB q.nc)] (List.mem_cons_self ..) ⟨⟨hs1.mono fun e he => by simp [he], hn1⟩, ⟨hs2.mono fun e he => by simp [he], hn2⟩, ⟨hs3.mono fun e he => by simp [he], hn3⟩, ⟨hs4.mono fun e he => by simp [he], hn4⟩, trivial⟩) (by simp only [List.flatten_cons, List.flatten_nil, List.length_append, List.length_nil]; omega)) ?_)
  rintro v l' ⟨le9, ho9, rfl⟩
  refine ⟨tok_, ?_⟩
  refine JDp 14 rfl y_as ?_
  refine JDd ?_
  refine AU0 ?_
  refine JC.sub (l' := le9 ++ l) (by repeat (first | exact List.Sublist.refl _ | apply List.Sublist.append_left | apply List.Sublist.cons | refine List.Sublist.trans ?_ (List.sublist_append_right _ _))) ?_
  exact JC.ret (RT.one rfl rfl (by conv => lhs; whnf) ⟨le9, ho9, rfl⟩)
 | tg q =>
  obtain ⟨g1, g2, g3, g4, g5⟩ := hg
  have b1 := tkB_le g1
  have b2 := octB_le q.au
  have b22 := g2.2
  have b3 := prB_le g3.1
  have b4 := intB_le q.till
  have b5 := intB_le q.nc
  refine AU0 ?_
  refine JLs (e_box (cs := (Mg.tg q).cells w1 w2) rfl rfl fun bx => ?_)
  refine AU1 ?_
  refine JLs (e_alloc fun bq => ?_)
  refine AU1 ?_
  refine JLs (e_store 0 rfl rfl rfl (vs := [sv q.tk.sv_.1, sv q.tk.sv_.2, iv q.tk.kv, w1, w2, sv q.sv_.1, sv q.sv_.2, iv q.till, iv q.nc]) rfl rfl (by obtain ⟨_, _, rfl, -⟩ := h1; obtain ⟨_, _, rfl, -⟩ := h2; rfl) lE_ ?_)
  refine JL.cast (l' := (bq, isC 201 [sv q.tk.sv_.1, sv q.tk.sv_.2, iv q.tk.kv, w1, w2, sv q.sv_.1, sv q.sv_.2, iv q.till, iv q.nc]) :: (bx, isC 207 ((Mg.tg q).cells w1 w2)) :: l) rfl ?_
  refine AU1 ?_
  refine JC.drawn 18 rfl mixed ?_
  refine JDp 0 rfl (y_fieldAddr rfl) ?_
  refine JDr 1 0 rfl rfl (r_loadA rfl lE_ rfl) ?_
  refine JDp 3 rfl (y_fieldAddr rfl) ?_
  refine JDr 4 0 rfl rfl (r_load1 rfl rfl) ?_
  refine JDp 6 rfl (y_fieldAddr rfl) ?_
  refine JDr 7 0 rfl rfl (r_loadA rfl lE_ rfl) ?_
  refine JDp 9 rfl (y_fieldAddr rfl) ?_
  refine JDr 10 0 rfl rfl (r_load1 rfl rfl) ?_
  refine JDp 12 rfl (y_fieldAddr rfl) ?_
  refine JDr 13 0 rfl rfl (r_load1 rfl rfl) ?_
  refine JDe 2 rfl (e_call rfl rfl (ticket_ok (t := q.tk) (v := w1) g1 (h1.mono fun e he => by simp [he])) ?_)
  rintro v l' ⟨le1, ho1, rfl⟩
  obtain ⟨A1, c1, rfl, hs1, hc1, hn1⟩ := De.own_src (W := W) ho1
  refine ⟨tok_, ?_⟩
  refine JDe 5 rfl (e_call rfl rfl (Octets_bv (v := w2) (bs := q.au) (by omega) (h2.mono fun e he => by simp [he])) ?_)
  rintro v l' ⟨le2, ho2, rfl⟩
  obtain ⟨A2, c2, rfl, hs2, hc2, hn2⟩ := De.own_src (W := W) ho2
  refine ⟨tok_, ?_⟩
  refine JDe 8 rfl (e_call rfl rfl (princ_ok (p := q.sv_) g3.1) ?_)
  rintro v l' ⟨le3, ho3, rfl⟩
  obtain ⟨A3, c3, rfl, hs3, hc3, hn3⟩ := De.own_src (W := W) ho3
  refine ⟨tok_, ?_⟩
  refine JDe 11 rfl (e_call rfl rfl (Int_bv q.till) ?_)
  rintro v l' ⟨le4, ho4, rfl⟩
  obtain ⟨A4, c4, rfl, hs4, hc4, hn4⟩ := De.own_src (W := W) ho4
  refine ⟨tok_, ?_⟩
  refine JDe 14 rfl (e_call rfl rfl (Int_bv q.nc) ?_)
  rintro v l' ⟨le5, ho5, rfl⟩
  obtain ⟨A5, c5, rfl, hs5, hc5, hn5⟩ := De.own_src (W := W) ho5
  refine ⟨tok_, ?_⟩
  refine JDe 15 rfl (e_buildSlice (cells := [.slice A1 (tkB q.tk).length c1, .slice A2 (octB q.au).length c2, .slice A3 (prB q.sv_).length c3, .slice A4 (intB q.till).length c4, .slice A5 (intB q.nc).length c5]) [.slice A1 (tkB q.tk).length c1, .slice A2 (octB q.au).length c2, .slice A3 (prB q.sv_).length c3, .slice A4 (intB q.till).length c4, .slice A5 (intB q.nc).length c5] rfl lE_ rfl (by simp [Value.cells]) rfl fun b2 => ⟨tok_, ?_⟩)
  refine JDe 16 rfl (e_call rfl rfl (De.Wrap_ok 108 (bss := [tkB q.tk, octB q.au, prB q.sv_, intB q.till, intB q.nc]) rfl (by unfold maxLen; decide) (rowsL [(A1, c1, tkB q.tk), (A2, c2, octB q.au), (A3, c3, prB q.sv_), (A4, c4, intB q.till), (A5, c5, intB q.nc)] (List.mem_cons_self ..) ⟨⟨hs1.mono fun e he => by simp [he], hn1⟩, ⟨hs2.mono fun e he => by simp [he], hn2⟩, ⟨hs3.mono fun e he => by simp [he], hn3⟩, ⟨hs4.mono fun e he => by simp [he], hn4⟩, ⟨hs5.mono fun e he => by simp [he], hn5⟩, trivial⟩) (by simp only [List.flatten_cons, List.flatten_nil, List.length_append, List.length_nil]; omega)) ?_)
  rintro v l' ⟨le9, ho9, rfl⟩
  refine ⟨tok_, ?_⟩
  refine JDp 17 rfl y_as ?_
  refine JDd ?_
  refine AU0 ?_
  refine JC.sub (l' := le9 ++ l) (by repeat (first | exact List.Sublist.refl _ | apply List.Sublist.append_left | apply List.Sublist.cons | refine List.Sublist.trans ?_ (List.sublist_append_right _ _))) ?_
  exact JC.ret (RT.one rfl rfl (by conv => lhs; whnf) ⟨le9, ho9, rfl⟩)
 | rep q =>
  obtain ⟨g1, g2, g3⟩ := hg
  have b1 := prB_le g1.1
  have b2 := tkB_le g2
  have b3 := octB_le q.bl
  have b33 := g3.2
  refine AU0 ?_
  refine JLs (e_box (cs := (Mg.rep q).cells w1 w2) rfl rfl fun bx => ?_)
  refine AU1 ?_
  refine JC.drawn 15 rfl mixed ?_
  refine JDp 0 rfl (y_fieldAddr rfl) ?_
  refine JDp 1 rfl (y_fieldAddr rfl) ?_
  refine JDr 2 0 rfl rfl (r_loadA rfl lE_ rfl) ?_
  refine JDp 4 rfl (y_fieldAddr rfl) ?_
  refine JDp 5 rfl (y_fieldAddr rfl) ?_
  refine JDr 6 0 rfl rfl (r_loadA rfl lE_ rfl) ?_
  refine JDp 8 rfl (y_fieldAddr rfl) ?_
  refine JDp 9 rfl (y_fieldAddr rfl) ?_
  refine JDr 10 0 rfl rfl (r_load1 rfl rfl) ?_
  refine JDe 3 rfl (e_call rfl rfl (princ_ok (p := q.cl) g1.1) ?_)
  rintro v l' ⟨le1, ho1, rfl⟩
  obtain ⟨A1, c1, rfl, hs1, hc1, hn1⟩ := De.own_src (W := W) ho1
  refine ⟨tok_, ?_⟩
  refine JDe 7 rfl (e_call rfl rfl (ticket_ok (t := q.tk) (v := w1) g2 (h1.mono fun e he => by simp [he])) ?_)
  rintro v l' ⟨le2, ho2, rfl⟩
  obtain ⟨A2, c2, rfl, hs2, hc2, hn2⟩ := De.own_src (W := W) ho2
  refine ⟨tok_, ?_⟩
  refine JDe 11 rfl (e_call rfl rfl (Octets_bv (v := w2) (bs := q.bl) (by omega) (h2.mono fun e he => by simp [he])) ?_)
  rintro v l' ⟨le3, ho3, rfl⟩
  obtain ⟨A3, c3, rfl, hs3, hc3, hn3⟩ := De.own_src (W := W) ho3
  refine ⟨tok_, ?_⟩
  refine JDe 12 rfl (e_buildSlice (cells := [.slice A1 (prB q.cl).length c1, .slice A2 (tkB q.tk).length c2, .slice A3 (octB q.bl).length c3]) [.slice A1 (prB q.cl).length c1, .slice A2 (tkB q.tk).length c2, .slice A3 (octB q.bl).length c3] rfl lE_ rfl (by simp [Value.cells]) rfl fun b2 => ⟨tok_, ?_⟩)
  refine JDe 13 rfl (e_call rfl rfl (De.Wrap_ok 107 (bss := [prB q.cl, tkB q.tk, octB q.bl]) rfl (by unfold maxLen; decide) (rowsL [(A1, c1, prB q.cl), (A2, c2, tkB q.tk), (A3, c3, octB q.bl)] (List.mem_cons_self ..) ⟨⟨hs1.mono fun e he => by simp [he], hn1⟩, ⟨hs2.mono fun e he => by simp [he], hn2⟩, ⟨hs3.mono fun e he => by simp [he], hn3⟩, trivial⟩) (by simp only [List.flatten_cons, List.flatten_nil, List.length_append, List.length_nil]; omega)) ?_)
  rintro v l' ⟨le9, ho9, rfl⟩
  refine ⟨tok_, ?_⟩
  refine JDp 14 rfl y_as ?_
  refine JDd ?_
  refine AU0 ?_
  refine JC.sub (l' := le9 ++ l) (by repeat (first | exact List.Sublist.refl _ | apply List.Sublist.append_left | apply List.Sublist.cons | refine List.Sublist.trans ?_ (List.sublist_append_right _ _))) ?_
  exact JC.ret (RT.one rfl rfl (by conv => lhs; whnf) ⟨le9, ho9, rfl⟩)
 | ap q =>
  obtain ⟨g1, g2⟩ := hg
  have b2 := tkB_le g1
  have b3 := octB_le q.au
  have b33 := g2.2
  refine AU0 ?_
  refine JLs (e_box (cs := (Mg.ap q).cells w1 w2) rfl rfl fun bx => ?_)
  refine AU1 ?_
  refine JC.drawn 11 rfl mixed ?_
  refine JDp 0 rfl (y_fieldAddr rfl) ?_
  refine JDp 1 rfl (y_fieldAddr rfl) ?_
  refine JDr 2 0 rfl rfl (r_loadA rfl lE_ rfl) ?_
  refine JDp 4 rfl (y_fieldAddr rfl) ?_
  refine JDp 5 rfl (y_fieldAddr rfl) ?_
  refine JDr 6 0 rfl rfl (r_load1 rfl rfl) ?_
  refine JDe 3 rfl (e_call rfl rfl (ticket_ok (t := q.tk) (v := w1) g1 (h1.mono fun e he => by simp [he])) ?_)
  rintro v l' ⟨le2, ho2, rfl⟩
  obtain ⟨A2, c2, rfl, hs2, hc2, hn2⟩ := De.own_src (W := W) ho2
  refine ⟨tok_, ?_⟩
  refine JDe 7 rfl (e_call rfl rfl (Octets_bv (v := w2) (bs := q.au) (by omega) (h2.mono fun e he => by simp [he])) ?_)
  rintro v l' ⟨le3, ho3, rfl⟩
  obtain ⟨A3, c3, rfl, hs3, hc3, hn3⟩ := De.own_src (W := W) ho3
  refine ⟨tok_, ?_⟩
  refine JDe 8 rfl (e_buildSlice (cells := [.slice A2 (tkB q.tk).length c2, .slice A3 (octB q.au).length c3]) [.slice A2 (tkB q.tk).length c2, .slice A3 (octB q.au).length c3] rfl lE_ rfl (by simp [Value.cells]) rfl fun b2 => ⟨tok_, ?_⟩)
  refine JDe 9 rfl (e_call rfl rfl (De.Wrap_ok 110 (bss := [tkB q.tk, octB q.au]) rfl (by unfold maxLen; decide) (rowsL [(A2, c2, tkB q.tk), (A3, c3, octB q.au)] (List.mem_cons_self ..) ⟨⟨hs2.mono fun e he => by simp [he], hn2⟩, ⟨hs3.mono fun e he => by simp [he], hn3⟩, trivial⟩) (by simp only [List.flatten_cons, List.flatten_nil, List.length_append, List.length_nil]; omega)) ?_)
  rintro v l' ⟨le9, ho9, rfl⟩
  refine ⟨tok_, ?_⟩
  refine JDp 10 rfl y_as ?_
  refine JDd ?_
  refine AU0 ?_
  refine JC.sub (l' := le9 ++ l) (by repeat (first | exact List.Sublist.refl _ | apply List.Sublist.append_left | apply List.Sublist.cons | refine List.Sublist.trans ?_ (List.sublist_append_right _ _))) ?_
  exact JC.ret (RT.one rfl rfl (by conv => lhs; whnf) ⟨le9, ho9, rfl⟩)
theorem Encode_mg {m : Mg} (hg : m.good) {w1 w2 : Value} {W : World} {l : List Ent} (h : m.at_ W l w1 w2) : Tr Pg 92 #[.agg (m.cells w1 w2).toArray] W l fun v l' => ∃ v1 le, v = .tuple #[v1, iv 0] ∧ OwnB v1 m.byts le ∧ l' = le ++ l := by
 have hb := Mg.byts_le hg
 obtain ⟨h1, h2⟩ := h
 refine Tr.of_code (args := [_]) Tryz.func92 rfl Tryz.ntmps92 lE_ ?_
 refine AU0 ?_
 refine JLs (e_box (cs := m.cells w1 w2) rfl rfl fun bx => ?_)
 refine AU0 ?_
 have hl : (m.cells w1 w2).length = 30 := by cases m <;> rfl
 refine JL.read 0 rfl rfl (r_loadW rfl hl) ?_
 refine JLs (e_call rfl rfl (is_yes (w1 := w1) (w2 := w2) hg ⟨h1.mono fun e he => by simp [he], h2.mono fun e he => by simp [he]⟩) ?_)
 rintro v l' ⟨rfl, rfl⟩
 refine AU0 ?_
 refine JL.read 0 rfl rfl (r_loadW rfl hl) ?_
 refine JLs (e_call rfl rfl (laid_mg (w1 := w1) (w2 := w2) hg ⟨h1.mono fun e he => by simp [he], h2.mono fun e he => by simp [he]⟩) ?_)
 rintro v l' ⟨le, ho, rfl⟩
 refine JLs (e_call rfl rfl (limited_ok hb (BV.mono (BV.own (W := W) ho) fun e he => by simp [he])) ?_)
 rintro v' l' ⟨rfl, rfl⟩
 refine AU0 ?_
 refine JC.sub (l' := le ++ l) (by repeat (first | exact List.Sublist.refl _ | apply List.Sublist.append_left | apply List.Sublist.cons | refine List.Sublist.trans ?_ (List.sublist_append_right _ _))) ?_
 exact JC.ret (RT.two rfl rfl (by conv => lhs; whnf) (by conv => lhs; whnf) ⟨v, le, rfl, ho, rfl⟩)
end Go.Proofs.YtbalcgjphkdecaaGreatDoor.To
namespace Go.Proofs.YtbalcgjphkdecaaGreatDoor.To
open Go.RowKit Go.Lg
set_option maxRecDepth 100000
section
variable {P : Program} {ρ : Operand → Value} {d : Option Tmp} {ty : TypeId} {pos : String} {af : Array Edge} {gd : Option (Nat × Bool)} {W : World} {l : List Ent} {Ψ : Value → List Ent → Prop}
theorem e_copy {t t' e T : TypeId} {x y : Operand} {b n c c' : Nat} {A : Option Addr} {cs xs : List Value} (i : Nat) (he : l[i]? = some (b, isC T cs)) [ht : SliceT P t e] [hs : Sz P e 1] (hx : ρ x = .slice (some ⟨b, 0, none⟩) n c) (hy : ρ y = .slice A n c') (hm : xs.length = n) (hcs : cs.length = n) (h0 : 0 < n) (hr : Src W l A xs)
  (h1 : ∀ u ∈ xs, u.oneCell' = true) (h : Ψ (.int .i64 (n : Int)) (l.set i (b, isC T xs))) : Eff P W l ⟨d, .call { callee := .builtin .copy, args := #[x, y], argTypes := #[t, t'] }, ty, pos, af, gd⟩ ρ Ψ := by
 intro w hw
 obtain ⟨ab, ao, rfl, hat⟩ := hr.at_ (by omega)
 have hcell := hat l (fun _ h => h) w hw
 obtain ⟨_, ob, hb, fz, rfl, hf⟩ := hw.at_ he
 have hst := run_storeCells P xs 0 0 cs.toArray w hb (by simpa using hf) (by simp; omega) h1
 simp only [Nat.add_zero] at hst
 rw [spl_splice cs 0 xs (by omega), spl_all cs xs (by omega)] at hst
 have hcb : ∀ j, j < xs.length → (w.cell? ⟨b, 0 + j, none⟩).isSome = true := fun j hj => by
  rw [cell_at hb, Nat.zero_add]
  simp; omega
 have hfz : ∀ j, j < xs.length → w.frozen? ⟨b, 0 + j, none⟩ = false := fun j hj => by
  unfold World.frozen?
  simp only [hb]
  rcases hf with hf | hf
  ·simp; omega
  ·simp; omega
 have hst2 := run_storeCells_cells (P := P) b 0 xs 0 w (by simpa using hcb) (by simpa using hfz) h1
 rw [Nat.add_zero, hst] at hst2
 have heq : w.setCells b 0 xs = setB w b (.cells xs.toArray T fz) := by injection hst2 with _ h2; exact h2.symm
 have hsz : (P.info? e).map (·.size) = some 1 := by have := hs.h; unfold szB at this; exact this
 have hcp := run_copy_cells (P := P) w t t' ty e b 0 n c ⟨ab, ao, none⟩ n c' xs ht.h hsz (by simp [hm]) (fun j v hj => by rw [addr_add]; exact hcell j v hj) hcb hfz h1
 unfold OpW
 simp only [execOp, resolve, invoke, builtin, Sem.run_bind, Sem.run_pure, Result.andThen_ok, List.map_toArray, List.map_cons, List.map_nil, hx, hy, hcp]
 rw [heq]
 refine ⟨_, hw.set_ (p' := isC T xs) he (setB_ok w hb _) ⟨fz, rfl, by rw [hm, ← hcs]; exact hf⟩, ?_⟩
 rw [hm]
 exact h
end
attribute [local irreducible] JC JL JD RN RT Eff Yld YldIf Tr partsL okR splitL wordB joinD fit betweenS laidS viaS De.wrapB De.num De.clampI prB tkB intB octB texB De.takeS De.intS De.octS De.nxtS De.inS De.numS De.nmxS
theorem prB_eq (p : P2) : prB p = De.wrapB 48 (texB p.1 ++ texB p.2) := by unfold prB wrapL; simp
theorem tkB_eq (t : Tk) : tkB t = De.wrapB 97 (prB t.sv_ ++ (intB t.kv ++ octB t.bl)) := by unfold tkB wrapL; simp
theorem tex_take {s : S} (h : s.length ≤ 2000) (rest : Bs) : De.octS (some (texB s ++ rest)) 27 = s ∧ De.nxtS (some (texB s ++ rest)) 27 = some rest := by
 have := oct_wrap 27 (p := s) (by omega) rest
 unfold texB
 exact ⟨this.1, this.2.1⟩
theorem oct_take {s : Bs} (h : s.length ≤ 2000) (rest : Bs) : De.octS (some (octB s ++ rest)) 4 = s ∧ De.nxtS (some (octB s ++ rest)) 4 = some rest := by
 have := oct_wrap 4 (p := s) (by omega) rest
 unfold octB
 exact ⟨this.1, this.2.1⟩
set_option maxHeartbeats 2000000 in
theorem tprinc_ok {p : P2} (h : tiny p = true) {rest : Bs} {W : World} {r0 r : List Ent} (hr : ∀ x ∈ r0, x ∈ r) {cb : Nat} {e : Ent} (hc : De.CurE W r0 cb (some (prB p ++ rest)) e) : Tr Pg 170 #[.agg #[De.ptr cb]] W (e :: r) fun v l' => ∃ e', v = pv p ∧ De.CurE W r0 cb (some rest) e' ∧ l' = e' :: r := by
 obtain ⟨h1, h2⟩ := tiny_spec h
 have b1 := texB_le p.1
 have b2 := texB_le p.2
 rw [prB_eq] at hc
 obtain ⟨-, o2, o3⟩ := oct_wrap 48 (p := texB p.1 ++ texB p.2) (by rw [List.length_append]; omega) rest
 obtain ⟨q1, q2⟩ := tex_take (s := p.1) (by omega) (texB p.2)
 obtain ⟨q3, q4⟩ := tex_take (s := p.2) (by omega) []
 rw [List.append_nil] at q3 q4
 refine Tr.of_code (args := [_]) Tryz.func170 rfl Tryz.ntmps170 lE_ ?_
 refine AU0 ?_
 refine JLs (e_box (cs := [De.ptr cb]) rfl rfl fun bx => ?_)
 refine JLs (e_alloc fun bp => ?_)
 refine AU2 ?_
 refine JLs (e_call rfl rfl (Tr.perm (l' := e :: ((bp, isC 48 [.string ByteArray.empty, .string ByteArray.empty]) :: (bx, isC 309 [De.ptr cb]) :: r)) prm_ (De.Into_okB 48 (fun x hx => by simp [hr x hx]) hc)) ?_)
 rintro v l' ⟨db, le1, e1, d, rfl, he1, hd, rfl⟩
 rw [o2] at he1
 rw [o3] at hd
 refine AU0 ?_
 refine JLs (e_call rfl rfl (De.CText_okB (fun x hx => by simp [hx]) hd) ?_)
 rintro v l' ⟨d2, rfl, hd2, rfl⟩
 rw [q2] at hd2
 rw [q1]
 refine AU0 ?_
 refine JLs (e_call rfl rfl (De.CText_okB (fun x hx => by simp [hx]) hd2) ?_)
 rintro v l' ⟨d3, rfl, hd3, rfl⟩
 rw [q3]
 refine JL.sub (l' := e1 :: (bp, isC 48 [.string ByteArray.empty, .string ByteArray.empty]) :: r) (by repeat (first | exact List.Sublist.refl _ | apply List.Sublist.append_left | (refine List.Sublist.cons_cons _ ?_) | apply List.Sublist.cons | refine List.Sublist.trans ?_ (List.sublist_append_right _ _))) ?_
 repeat (first | refine JLp (y_build (cells := (enc2 p).toArray) rfl) ?_ | refine AS0 ?_)
 refine JLs (e_store 1 rfl rfl rfl (vs := enc2 p) rfl rfl rfl lE_ ?_)
 refine JL.perm (l' := (bp, isC 48 (enc2 p)) :: e1 :: r) (List.Perm.swap ..) ?_
 refine AU0 ?_
 exact JC.ret (ret_cell rfl rfl 0 rfl rfl rfl (List.sublist_cons_self _ _) ⟨e1, rfl, he1, rfl⟩)
set_option maxHeartbeats 4000000 in
theorem tticket_ok {t : Tk} (h : t.good) (hk : tm t.kv) {rest : Bs} {W : World} {r0 r : List Ent} (hr : ∀ x ∈ r0, x ∈ r) {cb : Nat} {e : Ent} (hc : De.CurE W r0 cb (some (tkB t ++ rest)) e) : Tr Pg 172 #[.agg #[De.ptr cb]] W (e :: r) fun v l' =>
  ∃ e' w le, v = .agg (tkC t w).toArray ∧ BV W le w t.bl ∧ De.CurE W r0 cb (some rest) e' ∧ l' = le ++ (e' :: r) := by
 obtain ⟨g1, g2, g3, g4, g5⟩ := h
 have b1 := prB_le g1.1
 have b2 := intB_le t.kv
 have b3 := octB_le t.bl
 rw [tkB_eq] at hc
 obtain ⟨-, o2, o3⟩ := oct_wrap 97 (p := prB t.sv_ ++ (intB t.kv ++ octB t.bl)) (by simp only [List.length_append]; omega) rest
 obtain ⟨q1, q2⟩ := num_intB hk (octB t.bl)
 obtain ⟨q3, q4⟩ := oct_take (s := t.bl) (by omega) []
 rw [List.append_nil] at q3 q4
 refine Tr.of_code (args := [_]) Tryz.func172 rfl Tryz.ntmps172 lE_ ?_
 refine AU0 ?_
 refine JLs (e_box (cs := [De.ptr cb]) rfl rfl fun bx => ?_)
 refine JLs (e_alloc fun bp => ?_)
 refine AU2 ?_
 refine JLs (e_call rfl rfl (Tr.perm (l' := e :: ((bp, isC 186 [.string ByteArray.empty, .string ByteArray.empty, .int .i64 0, .slice none 0 0]) :: (bx, isC 309 [De.ptr cb]) :: r)) prm_ (De.Into_okB 97 (fun x hx => by simp [hr x hx]) hc)) ?_)
 rintro v l' ⟨db, le1, e1, d, rfl, he1, hd, rfl⟩
 rw [o2] at he1
 rw [o3] at hd
 repeat (first | refine JLp (y_build (cells := #[De.ptr db]) rfl) ?_ | refine AS0 ?_)
 refine JLs (e_alloc fun bt => ?_)
 refine JLs (e_store 0 rfl rfl rfl (vs := [De.ptr db]) rfl rfl rfl lE_ ?_)
 refine JL.perm (l' := d :: ((bt, isC 309 [De.ptr db]) :: (le1 ++ (e1 :: (bp, isC 186 [.string ByteArray.empty, .string ByteArray.empty, .int .i64 0, .slice none 0 0]) :: (bx, isC 309 [De.ptr cb]) :: r)))) (List.Perm.swap ..) ?_
 refine AU2 ?_
 refine JLs (e_call rfl rfl (tprinc_ok g1.1 (fun x hx => by simp [hx]) hd) ?_)
 rintro v l' ⟨d2, rfl, hd2, rfl⟩
 repeat (first | refine JLp (y_build (cells := #[sv t.sv_.1, sv t.sv_.2, .int .i64 0, .slice none 0 0]) rfl) ?_ | refine AS0 ?_)
 refine JLs (e_alloc fun bk => ?_)
 refine JLs (e_store 0 rfl rfl rfl (vs := [sv t.sv_.1, sv t.sv_.2, .int .i64 0, .slice none 0 0]) rfl rfl rfl lE_ ?_)
 refine JL.cast (l' := (bk, isC 186 [sv t.sv_.1, sv t.sv_.2, .int .i64 0, .slice none 0 0]) :: d2 :: ((bt, isC 309 [De.ptr db]) :: (le1 ++ (e1 :: (bp, isC 186 [.string ByteArray.empty, .string ByteArray.empty, .int .i64 0, .slice none 0 0]) :: (bx, isC 309 [De.ptr cb]) :: r)))) rfl ?_
 refine JL.perm (l' := d2 :: ((bt, isC 309 [De.ptr db]) :: (bk, isC 186 [sv t.sv_.1, sv t.sv_.2, .int .i64 0, .slice none 0 0]) :: (le1 ++ (e1 :: (bp, isC 186 [.string ByteArray.empty, .string ByteArray.empty, .int .i64 0, .slice none 0 0]) :: (bx, isC 309 [De.ptr cb]) :: r)))) prm_ ?_
 refine AU3 ?_
 refine JLs (e_call rfl rfl (De.CInt_okB (fun x hx => by simp [hx]) hd2) ?_)
 rintro v l' ⟨d3, rfl, hd3, rfl⟩
 rw [q2] at hd3
 have hkv : ((De.numS (some (intB t.kv ++ octB t.bl)) : Nat) : Int) = t.kv := by rw [q1]; exact Int.toNat_of_nonneg hk.1
 rw [hkv]
 refine AU0 ?_
 refine JLs (e_store 2 rfl rfl rfl (vs := [iv t.kv]) rfl rfl rfl lE_ ?_)
 refine JL.cast (l' := d3 :: ((bt, isC 309 [De.ptr db]) :: (bk, isC 186 [sv t.sv_.1, sv t.sv_.2, iv t.kv, .slice none 0 0]) :: (le1 ++ (e1 :: (bp, isC 186 [.string ByteArray.empty, .string ByteArray.empty, .int .i64 0, .slice none 0 0]) :: (bx, isC 309 [De.ptr cb]) :: r)))) rfl ?_
 refine AU3 ?_
 refine JLs (e_call rfl rfl (De.COct_okB (fun x hx => by simp [hx]) hd3) ?_)
 rintro v l' ⟨le2, d4, ho, hd4, rfl⟩
 rw [q3] at ho
 obtain ⟨A, c, rfl, hs, hcc, hn⟩ := De.own_src (W := W) ho
 refine JL.perm (l' := (bk, isC 186 [sv t.sv_.1, sv t.sv_.2, iv t.kv, .slice none 0 0]) :: (bp, isC 186 [.string ByteArray.empty, .string ByteArray.empty, .int .i64 0, .slice none 0 0]) :: (le2 ++ (e1 :: (d4 :: ((bt, isC 309 [De.ptr db]) :: (le1 ++ ((bx, isC 309 [De.ptr cb]) :: r))))))) prm_ ?_
 refine JL.sub (l' := (bk, isC 186 [sv t.sv_.1, sv t.sv_.2, iv t.kv, .slice none 0 0]) :: (bp, isC 186 [.string ByteArray.empty, .string ByteArray.empty, .int .i64 0, .slice none 0 0]) :: (le2 ++ (e1 :: r))) (by repeat (first | exact List.Sublist.refl _ | apply List.Sublist.append_left | (refine List.Sublist.cons_cons _ ?_) | apply List.Sublist.cons | refine List.Sublist.trans ?_ (List.sublist_append_right _ _))) ?_
 refine AU0 ?_
 refine JLs (e_store 0 rfl rfl rfl (vs := [.slice A t.bl.length c]) rfl rfl rfl lE_ ?_)
 refine JL.cast (l' := (bk, isC 186 (tkC t (.slice A t.bl.length c))) :: (bp, isC 186 [.string ByteArray.empty, .string ByteArray.empty, .int .i64 0, .slice none 0 0]) :: (le2 ++ (e1 :: r))) rfl ?_
 refine AU1 ?_
 refine JLs (e_store 1 rfl rfl rfl (vs := tkC t (.slice A t.bl.length c)) rfl rfl rfl lE_ ?_)
 refine JL.cast (l' := (bk, isC 186 (tkC t (.slice A t.bl.length c))) :: (bp, isC 186 (tkC t (.slice A t.bl.length c))) :: (le2 ++ (e1 :: r))) rfl ?_
 refine AU0 ?_
 refine JC.ret (ret_cell rfl rfl 1 rfl rfl rfl (List.sublist_append_right [_, _] _) ⟨e1, .slice A t.bl.length c, le2, rfl, ?_, he1, rfl⟩)
 exact ⟨A, c, rfl, hs, hcc, hn⟩
theorem in_ok {tag : UInt8} {p : Bs} (hp : p.length ≤ 3000) {A : Option Addr} {n c : Nat} {b : Bs} (hb : b = De.wrapB tag p) (hn : b.length = n) {W : World} {r : List Ent} (hv : SlV W r A n c (b.map bv)) : Tr Pg 169 #[.slice A n c, bv tag] W r fun v l' =>
  ∃ db le e, v = .agg #[De.ptr db] ∧ De.CurE W le db (some p) e ∧ l' = e :: (le ++ r) := by
 obtain ⟨hs, hc, hnn⟩ := hv
 have hl : b.length ≤ 3004 := by rw [hb]; have := wrap_le tag p; omega
 obtain ⟨-, o2, o3⟩ := oct_wrap tag (p := p) (by omega) []
 rw [List.append_nil, ← hb] at o2 o3
 refine Tr.of_code (args := [_, _]) Tryz.func169 rfl Tryz.ntmps169 lE_ ?_
 refine AU0 ?_
 refine JLs (e_alloc fun bt => ?_)
 refine AU0 ?_
 refine JLs (e_call rfl rfl (De.Open_ok hn (by omega) (hs.mono fun e he => by simp [he]) hnn) ?_)
 rintro v l' ⟨cb, le1, e1, rfl, he1, rfl⟩
 refine AU0 ?_
 refine JLs (e_call rfl rfl (De.Into_okB tag (r0 := le1) (fun x hx => by simp [hx]) he1) ?_)
 rintro v l' ⟨db, le2, e2, d, rfl, he2, hd, rfl⟩
 rw [o3] at hd
 refine JL.sub (l' := d :: (le2 ++ ((bt, isC 309 [.pointer none]) :: r))) (by repeat (first | exact List.Sublist.refl _ | apply List.Sublist.append_left | (refine List.Sublist.cons_cons _ ?_) | apply List.Sublist.cons | refine List.Sublist.trans ?_ (List.sublist_append_right _ _))) ?_
 refine JL.perm (l' := (bt, isC 309 [.pointer none]) :: d :: (le2 ++ r)) prm_ ?_
 repeat (first | refine JLp (y_build (cells := #[De.ptr db]) rfl) ?_ | refine AS0 ?_)
 refine JLs (e_store 0 rfl rfl rfl (vs := [De.ptr db]) rfl rfl rfl lE_ ?_)
 refine JL.cast (l' := (bt, isC 309 [De.ptr db]) :: d :: (le2 ++ r)) rfl ?_
 refine AU0 ?_
 exact JC.ret (ret_cell rfl rfl 0 rfl rfl rfl (List.sublist_cons_self _ _) ⟨db, le2, d, rfl, hd, rfl⟩)
end Go.Proofs.YtbalcgjphkdecaaGreatDoor.To
namespace Go.Proofs.YtbalcgjphkdecaaGreatDoor.To
open Go.RowKit Go.Lg
set_option maxRecDepth 100000
def Mg.tag : Mg → UInt8
 | .aq _ => 106
 | .tg _ => 108
 | .rep _ => 107
 | .ap _ => 110
def Mg.body : Mg → Bs
 | .aq q => prB q.cl ++ (prB q.sv_ ++ (intB q.till ++ intB q.nc))
 | .tg q => tkB q.tk ++ (octB q.au ++ (prB q.sv_ ++ (intB q.till ++ intB q.nc)))
 | .rep q => prB q.cl ++ (tkB q.tk ++ octB q.bl)
 | .ap q => tkB q.tk ++ octB q.au
theorem Mg.byts_eq (m : Mg) : m.byts = De.wrapB m.tag m.body := by cases m <;> simp [Mg.byts, Mg.tag, Mg.body, wrapL]
theorem Mg.body_le {m : Mg} (h : m.good) : m.body.length ≤ 3000 := by
 have := Mg.byts_le h
 rw [Mg.byts_eq, De.wrapB_len] at this
 omega
theorem wrap_head (tag : UInt8) (p : Bs) : ((De.wrapB tag p).map bv)[0]? = some (bv tag) := rfl
def Z30 : List Value := [.int .i64 0, .string ByteArray.empty, .string ByteArray.empty, .string ByteArray.empty, .string ByteArray.empty, .int .i64 0, .int .i64 0, .string ByteArray.empty, .string ByteArray.empty, .int .i64 0, .slice none 0 0, .slice none 0 0, .string ByteArray.empty, .string ByteArray.empty, .int .i64 0, .int .i64 0, .string ByteArray.empty, .string ByteArray.empty, .string ByteArray.empty, .string ByteArray.empty, .int .i64 0, .slice none 0 0, .slice none 0 0, .string ByteArray.empty, .string ByteArray.empty, .int .i64 0, .slice none 0 0, .slice none 0 0, .int .i64 0, .int .i64 0]
attribute [local irreducible] JC JL JD RN RT Eff Yld YldIf Tr partsL okR splitL wordB joinD fit betweenS laidS viaS De.wrapB De.num De.clampI prB tkB intB octB texB De.takeS De.intS De.octS De.nxtS De.inS De.numS De.nmxS
theorem int_take {n : Int} (h : tm n) (rest : Bs) : ((De.numS (some (intB n ++ rest)) : Nat) : Int) = n ∧ De.nmxS (some (intB n ++ rest)) = some rest := by
 obtain ⟨q1, q2⟩ := num_intB h rest
 exact ⟨by rw [q1]; exact Int.toNat_of_nonneg h.1, q2⟩
theorem int_take0 {n : Int} (h : tm n) : ((De.numS (some (intB n)) : Nat) : Int) = n ∧ De.nmxS (some (intB n)) = some [] := by
 have := int_take h []
 rwa [List.append_nil] at this
theorem oct_take0 {s : Bs} (h : s.length ≤ 2000) : De.octS (some (octB s)) 4 = s ∧ De.nxtS (some (octB s)) 4 = some [] := by
 have := oct_take h []
 rwa [List.append_nil] at this
theorem Tk.good.tm {t : Tk} (h : t.good) : tm t.kv := ⟨by have := h.2.1; omega, by have := h.2.2.1; omega⟩
theorem bv_nl (W : World) (r : List Ent) : BV W r nl [] := ⟨none, 0, rfl, Src.nil .., Nat.le_refl _, fun _ => ⟨rfl, rfl⟩⟩
theorem perm_mid' {α : Type} {a b : α} (le l : List α) : (le ++ (a :: b :: l)).Perm (a :: b :: (le ++ l)) := (perm_mid [a, b] le l).symm
set_option maxHeartbeats 8000000 in
theorem taken_ok {m : Mg} (hg : m.good) {A : Option Addr} {n c : Nat} {W : World} {l : List Ent} (hn : m.byts.length = n) (hv : SlV W l A n c (m.byts.map bv)) : Tr Pg 129 #[.slice A n c] W l fun v l' =>
  ∃ w1 w2 le, v = .agg (m.cells w1 w2).toArray ∧ m.at_ W le w1 w2 ∧ l' = le ++ l := by
 have hbl := Mg.body_le hg
 have hpos := Mg.byts_pos m
 obtain ⟨bb, bo, rfl, hat⟩ := hv.1.at_ (by rw [List.length_map]; omega)
 have h0 : ∀ l1, (∀ e ∈ l, e ∈ l1) → ∀ w, SH W l1 w → w.cell? ⟨bb, bo + 0 * 1, none⟩ = some (bv m.tag) := fun l1 hl1 w hw => hat l1 hl1 w hw 0 _ (by rw [Mg.byts_eq]; exact wrap_head ..)
 refine Tr.of_code (args := [_]) Tryz.func129 rfl Tryz.ntmps129 lE_ ?_
 refine AU0 ?_
 refine JLs (e_alloc fun b2 => ?_)
 repeat (first | refine JLp (y_build (cells := Z30.toArray) rfl) ?_ | refine AS0 ?_)
 refine JLs (e_alloc fun b3 => ?_)
 refine JLs (e_store 0 rfl rfl rfl (vs := Z30) rfl rfl rfl lE_ ?_)
 refine JL.cast (l' := (b3, isC 207 Z30) :: (b2, isC 207 Z30) :: l) rfl ?_
 cases m with
 | aq q =>
  obtain ⟨g1, g2, g3, g4⟩ := hg
  rw [show bv (Mg.aq q).tag = .int .u8 106 from rfl] at h0
  repeat (first | refine JLs (e_loadS rfl (h0 _ (fun e he => by simp [he])) ?_) | refine AS2 ?_)
  refine JLs (e_call rfl rfl (in_ok (tag := 106) hbl (Mg.byts_eq _) hn (SlV.mono hv fun e he => by simp [he])) ?_)
  rintro v l' ⟨db, le, e1, rfl, he1, rfl⟩
  refine JLs (e_alloc fun b4 => ?_)
  refine JLs (e_store 0 rfl rfl rfl (vs := [De.ptr db]) rfl rfl rfl lE_ ?_)
  refine JL.perm (l' := e1 :: ((b4, isC 309 [De.ptr db]) :: (b3, isC 207 Z30) :: (b2, isC 207 Z30) :: (le ++ l))) (by refine List.Perm.trans (List.Perm.swap ..) ?_; refine List.Perm.cons _ (List.Perm.cons _ ?_); exact perm_mid' le _) ?_
  repeat (first | refine JLs (e_loadS rfl (h0 _ (fun e he => by simp [he])) ?_) | refine AS0 ?_)
  refine AU0 ?_
  refine JLs (e_store 2 rfl rfl rfl (vs := [iv 1]) rfl rfl rfl lE_ ?_)
  refine JL.cast (by conv => lhs; try simp only [List.set_cons_succ, List.set_cons_zero, List.set, List.cons_append, List.nil_append, List.append_eq, List.append_assoc, spl, Nat.zero_add, Nat.add_zero]) ?_
  refine AU2 ?_
  refine JLs (e_call rfl rfl (tprinc_ok (p := q.cl) g1.1 (fun x hx => by simp [hx]) he1) ?_)
  rintro v l' ⟨e2, rfl, he2, rfl⟩
  refine AU0 ?_
  refine JLs (e_store 2 rfl rfl rfl (vs := enc2 q.cl) rfl rfl rfl lE_ ?_)
  refine JL.cast (by conv => lhs; try simp only [List.set_cons_succ, List.set_cons_zero, List.set, List.cons_append, List.nil_append, List.append_eq, List.append_assoc, spl, Nat.zero_add, Nat.add_zero]) ?_
  refine AU2 ?_
  refine JLs (e_call rfl rfl (tprinc_ok (p := q.sv_) g2.1 (fun x hx => by simp [hx]) he2) ?_)
  rintro v l' ⟨e3, rfl, he3, rfl⟩
  refine AU0 ?_
  refine JLs (e_store 2 rfl rfl rfl (vs := enc2 q.sv_) rfl rfl rfl lE_ ?_)
  refine JL.cast (by conv => lhs; try simp only [List.set_cons_succ, List.set_cons_zero, List.set, List.cons_append, List.nil_append, List.append_eq, List.append_assoc, spl, Nat.zero_add, Nat.add_zero]) ?_
  refine AU2 ?_
  refine JLs (e_call rfl rfl (De.CInt_okB (fun x hx => by simp [hx]) he3) ?_)
  rintro v l' ⟨e4, rfl, he4, rfl⟩
  rw [(int_take g3 _).2] at he4
  rw [(int_take g3 _).1]
  refine AU0 ?_
  refine JLs (e_store 2 rfl rfl rfl (vs := [iv q.till]) rfl rfl rfl lE_ ?_)
  refine JL.cast (by conv => lhs; try simp only [List.set_cons_succ, List.set_cons_zero, List.set, List.cons_append, List.nil_append, List.append_eq, List.append_assoc, spl, Nat.zero_add, Nat.add_zero]) ?_
  refine AU2 ?_
  refine JLs (e_call rfl rfl (De.CInt_okB (fun x hx => by simp [hx]) he4) ?_)
  rintro v l' ⟨e5, rfl, he5, rfl⟩
  rw [(int_take0 g4).2] at he5
  rw [(int_take0 g4).1]
  refine AU0 ?_
  refine JLs (e_store 2 rfl rfl rfl (vs := [iv q.nc]) rfl rfl rfl lE_ ?_)
  refine JL.cast (by conv => lhs; try simp only [List.set_cons_succ, List.set_cons_zero, List.set, List.cons_append, List.nil_append, List.append_eq, List.append_assoc, spl, Nat.zero_add, Nat.add_zero]) ?_
  refine AU2 ?_
  refine AU3 ?_
  refine JLs (e_store 3 rfl rfl rfl (vs := (Mg.aq q).cells nl nl) rfl rfl rfl lE_ ?_)
  refine AU0 ?_
  refine JC.sub (l' := (b2, isC 207 ((Mg.aq q).cells nl nl)) :: (le ++ l)) ((List.sublist_cons_self _ _).trans ((List.sublist_cons_self _ _).trans (List.sublist_cons_self _ _))) ?_
  exact JC.ret (ret_cell rfl rfl 0 rfl rfl rfl (List.sublist_cons_self _ _) ⟨nl, nl, le, rfl, ⟨bv_nl .., bv_nl ..⟩, rfl⟩)
 | tg q =>
  obtain ⟨g1, g2, g3, g4, g5⟩ := hg
  have g22 := g2.2
  rw [show bv (Mg.tg q).tag = .int .u8 108 from rfl] at h0
  repeat (first | refine JLs (e_loadS rfl (h0 _ (fun e he => by simp [he])) ?_) | refine AS2 ?_)
  refine JLs (e_call rfl rfl (in_ok (tag := 108) hbl (Mg.byts_eq _) hn (SlV.mono hv fun e he => by simp [he])) ?_)
  rintro v l' ⟨db, le, e1, rfl, he1, rfl⟩
  refine JLs (e_alloc fun b4 => ?_)
  refine JLs (e_store 0 rfl rfl rfl (vs := [De.ptr db]) rfl rfl rfl lE_ ?_)
  refine JL.perm (l' := e1 :: ((b4, isC 309 [De.ptr db]) :: (b3, isC 207 Z30) :: (b2, isC 207 Z30) :: (le ++ l))) (by refine List.Perm.trans (List.Perm.swap ..) ?_; refine List.Perm.cons _ (List.Perm.cons _ ?_); exact perm_mid' le _) ?_
  repeat (first | refine JLs (e_loadS rfl (h0 _ (fun e he => by simp [he])) ?_) | refine AS0 ?_)
  refine AU0 ?_
  refine JLs (e_store 2 rfl rfl rfl (vs := [iv 2]) rfl rfl rfl lE_ ?_)
  refine JL.cast (by conv => lhs; try simp only [List.set_cons_succ, List.set_cons_zero, List.set, List.cons_append, List.nil_append, List.append_eq, List.append_assoc, spl, Nat.zero_add, Nat.add_zero]) ?_
  refine AU2 ?_
  refine JLs (e_call rfl rfl (tticket_ok (t := q.tk) g1 g1.tm (fun x hx => by simp [hx]) he1) ?_)
  rintro v l' ⟨e2, w, lw, rfl, hw, he2, rfl⟩
  obtain ⟨Aw, cw, rfl, hsw, hcw, hnw⟩ := hw
  refine JL.perm (l' := e2 :: (_ :: _ :: _ :: (lw ++ _))) (perm_mid [_, _, _, _] lw _).symm ?_
  refine AU0 ?_
  refine JLs (e_store 2 rfl rfl rfl (vs := tkC q.tk (.slice Aw q.tk.bl.length cw)) rfl rfl rfl lE_ ?_)
  refine JL.cast (by conv => lhs; try simp only [List.set_cons_succ, List.set_cons_zero, List.set, List.cons_append, List.nil_append, List.append_eq, List.append_assoc, spl, Nat.zero_add, Nat.add_zero]) ?_
  refine AU2 ?_
  refine JLs (e_call rfl rfl (De.COct_okB (fun x hx => by simp [hx]) he2) ?_)
  rintro v l' ⟨lo, e3, ho, he3, rfl⟩
  rw [(oct_take (s := q.au) (by omega) _).1] at ho
  rw [(oct_take (s := q.au) (by omega) _).2] at he3
  obtain ⟨Ao, co, rfl, hso, hco, hno⟩ := De.own_src (W := W) ho
  refine JL.perm (l' := e3 :: (_ :: _ :: _ :: (lo ++ _))) (perm_mid [_, _, _, _] lo _).symm ?_
  refine AU0 ?_
  refine JLs (e_store 2 rfl rfl rfl (vs := [.slice Ao q.au.length co]) rfl rfl rfl lE_ ?_)
  refine JL.cast (by conv => lhs; try simp only [List.set_cons_succ, List.set_cons_zero, List.set, List.cons_append, List.nil_append, List.append_eq, List.append_assoc, spl, Nat.zero_add, Nat.add_zero]) ?_
  refine AU2 ?_
  refine JLs (e_call rfl rfl (tprinc_ok (p := q.sv_) g3.1 (fun x hx => by simp [hx]) he3) ?_)
  rintro v l' ⟨e4, rfl, he4, rfl⟩
  refine AU0 ?_
  refine JLs (e_store 2 rfl rfl rfl (vs := enc2 q.sv_) rfl rfl rfl lE_ ?_)
  refine JL.cast (by conv => lhs; try simp only [List.set_cons_succ, List.set_cons_zero, List.set, List.cons_append, List.nil_append, List.append_eq, List.append_assoc, spl, Nat.zero_add, Nat.add_zero]) ?_
  refine AU2 ?_
  refine JLs (e_call rfl rfl (De.CInt_okB (fun x hx => by simp [hx]) he4) ?_)
  rintro v l' ⟨e5, rfl, he5, rfl⟩
  rw [(int_take g4 _).2] at he5
  rw [(int_take g4 _).1]
  refine AU0 ?_
  refine JLs (e_store 2 rfl rfl rfl (vs := [iv q.till]) rfl rfl rfl lE_ ?_)
  refine JL.cast (by conv => lhs; try simp only [List.set_cons_succ, List.set_cons_zero, List.set, List.cons_append, List.nil_append, List.append_eq, List.append_assoc, spl, Nat.zero_add, Nat.add_zero]) ?_
  refine AU2 ?_
  refine JLs (e_call rfl rfl (De.CInt_okB (fun x hx => by simp [hx]) he5) ?_)
  rintro v l' ⟨e6, rfl, he6, rfl⟩
  rw [(int_take0 g5).2] at he6
  rw [(int_take0 g5).1]
  refine AU0 ?_
  refine JLs (e_store 2 rfl rfl rfl (vs := [iv q.nc]) rfl rfl rfl lE_ ?_)
  refine JL.cast (by conv => lhs; try simp only [List.set_cons_succ, List.set_cons_zero, List.set, List.cons_append, List.nil_append, List.append_eq, List.append_assoc, spl, Nat.zero_add, Nat.add_zero]) ?_
  refine AU2 ?_
  refine AU3 ?_
  refine JLs (e_store 3 rfl rfl rfl (vs := (Mg.tg q).cells (.slice Aw q.tk.bl.length cw) (.slice Ao q.au.length co)) rfl rfl rfl lE_ ?_)
  refine AU0 ?_
  refine JC.sub (l' := (b2, isC 207 ((Mg.tg q).cells (.slice Aw q.tk.bl.length cw) (.slice Ao q.au.length co))) :: (lo ++ (lw ++ (le ++ l)))) ((List.sublist_cons_self _ _).trans ((List.sublist_cons_self _ _).trans (List.sublist_cons_self _ _))) ?_
  exact JC.ret (ret_cell rfl rfl 0 rfl rfl rfl (List.sublist_cons_self _ _) ⟨(.slice Aw q.tk.bl.length cw), (.slice Ao q.au.length co), lo ++ (lw ++ le), rfl, ⟨⟨Aw, cw, rfl, hsw.mono fun e he => by simp [he], hcw, hnw⟩, ⟨Ao, co, rfl, hso.mono fun e he => by simp [he], hco, hno⟩⟩, by simp only [List.append_assoc]⟩)
 | rep q =>
  obtain ⟨g1, g2, g3⟩ := hg
  have g33 := g3.2
  rw [show bv (Mg.rep q).tag = .int .u8 107 from rfl] at h0
  repeat (first | refine JLs (e_loadS rfl (h0 _ (fun e he => by simp [he])) ?_) | refine AS2 ?_)
  refine JLs (e_call rfl rfl (in_ok (tag := 107) hbl (Mg.byts_eq _) hn (SlV.mono hv fun e he => by simp [he])) ?_)
  rintro v l' ⟨db, le, e1, rfl, he1, rfl⟩
  refine JLs (e_alloc fun b4 => ?_)
  refine JLs (e_store 0 rfl rfl rfl (vs := [De.ptr db]) rfl rfl rfl lE_ ?_)
  refine JL.perm (l' := e1 :: ((b4, isC 309 [De.ptr db]) :: (b3, isC 207 Z30) :: (b2, isC 207 Z30) :: (le ++ l))) (by refine List.Perm.trans (List.Perm.swap ..) ?_; refine List.Perm.cons _ (List.Perm.cons _ ?_); exact perm_mid' le _) ?_
  repeat (first | refine JLs (e_loadS rfl (h0 _ (fun e he => by simp [he])) ?_) | refine AS0 ?_)
  refine AU0 ?_
  refine JLs (e_store 2 rfl rfl rfl (vs := [iv 3]) rfl rfl rfl lE_ ?_)
  refine JL.cast (by conv => lhs; try simp only [List.set_cons_succ, List.set_cons_zero, List.set, List.cons_append, List.nil_append, List.append_eq, List.append_assoc, spl, Nat.zero_add, Nat.add_zero]) ?_
  refine AU2 ?_
  refine JLs (e_call rfl rfl (tprinc_ok (p := q.cl) g1.1 (fun x hx => by simp [hx]) he1) ?_)
  rintro v l' ⟨e2, rfl, he2, rfl⟩
  refine AU0 ?_
  refine JLs (e_store 2 rfl rfl rfl (vs := enc2 q.cl) rfl rfl rfl lE_ ?_)
  refine JL.cast (by conv => lhs; try simp only [List.set_cons_succ, List.set_cons_zero, List.set, List.cons_append, List.nil_append, List.append_eq, List.append_assoc, spl, Nat.zero_add, Nat.add_zero]) ?_
  refine AU2 ?_
  refine JLs (e_call rfl rfl (tticket_ok (t := q.tk) g2 g2.tm (fun x hx => by simp [hx]) he2) ?_)
  rintro v l' ⟨e3, w, lw, rfl, hw, he3, rfl⟩
  obtain ⟨Aw, cw, rfl, hsw, hcw, hnw⟩ := hw
  refine JL.perm (l' := e3 :: (_ :: _ :: _ :: (lw ++ _))) (perm_mid [_, _, _, _] lw _).symm ?_
  refine AU0 ?_
  refine JLs (e_store 2 rfl rfl rfl (vs := tkC q.tk (.slice Aw q.tk.bl.length cw)) rfl rfl rfl lE_ ?_)
  refine JL.cast (by conv => lhs; try simp only [List.set_cons_succ, List.set_cons_zero, List.set, List.cons_append, List.nil_append, List.append_eq, List.append_assoc, spl, Nat.zero_add, Nat.add_zero]) ?_
  refine AU2 ?_
  refine JLs (e_call rfl rfl (De.COct_okB (fun x hx => by simp [hx]) he3) ?_)
  rintro v l' ⟨lo, e4, ho, he4, rfl⟩
  rw [(oct_take0 (s := q.bl) (by omega)).1] at ho
  rw [(oct_take0 (s := q.bl) (by omega)).2] at he4
  obtain ⟨Ao, co, rfl, hso, hco, hno⟩ := De.own_src (W := W) ho
  refine JL.perm (l' := e4 :: (_ :: _ :: _ :: (lo ++ _))) (perm_mid [_, _, _, _] lo _).symm ?_
  refine AU0 ?_
  refine JLs (e_store 2 rfl rfl rfl (vs := [.slice Ao q.bl.length co]) rfl rfl rfl lE_ ?_)
  refine JL.cast (by conv => lhs; try simp only [List.set_cons_succ, List.set_cons_zero, List.set, List.cons_append, List.nil_append, List.append_eq, List.append_assoc, spl, Nat.zero_add, Nat.add_zero]) ?_
  refine AU2 ?_
  refine AU3 ?_
  refine JLs (e_store 3 rfl rfl rfl (vs := (Mg.rep q).cells (.slice Aw q.tk.bl.length cw) (.slice Ao q.bl.length co)) rfl rfl rfl lE_ ?_)
  refine AU0 ?_
  refine JC.sub (l' := (b2, isC 207 ((Mg.rep q).cells (.slice Aw q.tk.bl.length cw) (.slice Ao q.bl.length co))) :: (lo ++ (lw ++ (le ++ l)))) ((List.sublist_cons_self _ _).trans ((List.sublist_cons_self _ _).trans (List.sublist_cons_self _ _))) ?_
  exact JC.ret (ret_cell rfl rfl 0 rfl rfl rfl (List.sublist_cons_self _ _) ⟨(.slice Aw q.tk.bl.length cw), (.slice Ao q.bl.length co), lo ++ (lw ++ le), rfl, ⟨⟨Aw, cw, rfl, hsw.mono fun e he => by simp [he], hcw, hnw⟩, ⟨Ao, co, rfl, hso.mono fun e he => by simp [he], hco, hno⟩⟩, by simp only [List.append_assoc]⟩)
 | ap q =>
  obtain ⟨g1, g2⟩ := hg
  have g22 := g2.2
  rw [show bv (Mg.ap q).tag = .int .u8 110 from rfl] at h0
  repeat (first | refine JLs (e_loadS rfl (h0 _ (fun e he => by simp [he])) ?_) | refine AS2 ?_)
  refine JLs (e_call rfl rfl (in_ok (tag := 110) hbl (Mg.byts_eq _) hn (SlV.mono hv fun e he => by simp [he])) ?_)
  rintro v l' ⟨db, le, e1, rfl, he1, rfl⟩
  refine JLs (e_alloc fun b4 => ?_)
  refine JLs (e_store 0 rfl rfl rfl (vs := [De.ptr db]) rfl rfl rfl lE_ ?_)
  refine JL.perm (l' := e1 :: ((b4, isC 309 [De.ptr db]) :: (b3, isC 207 Z30) :: (b2, isC 207 Z30) :: (le ++ l))) (by refine List.Perm.trans (List.Perm.swap ..) ?_; refine List.Perm.cons _ (List.Perm.cons _ ?_); exact perm_mid' le _) ?_
  repeat (first | refine JLs (e_loadS rfl (h0 _ (fun e he => by simp [he])) ?_) | refine AS0 ?_)
  refine AU0 ?_
  refine JLs (e_store 2 rfl rfl rfl (vs := [iv 4]) rfl rfl rfl lE_ ?_)
  refine JL.cast (by conv => lhs; try simp only [List.set_cons_succ, List.set_cons_zero, List.set, List.cons_append, List.nil_append, List.append_eq, List.append_assoc, spl, Nat.zero_add, Nat.add_zero]) ?_
  refine AU2 ?_
  refine JLs (e_call rfl rfl (tticket_ok (t := q.tk) g1 g1.tm (fun x hx => by simp [hx]) he1) ?_)
  rintro v l' ⟨e2, w, lw, rfl, hw, he2, rfl⟩
  obtain ⟨Aw, cw, rfl, hsw, hcw, hnw⟩ := hw
  refine JL.perm (l' := e2 :: (_ :: _ :: _ :: (lw ++ _))) (perm_mid [_, _, _, _] lw _).symm ?_
  refine AU0 ?_
  refine JLs (e_store 2 rfl rfl rfl (vs := tkC q.tk (.slice Aw q.tk.bl.length cw)) rfl rfl rfl lE_ ?_)
  refine JL.cast (by conv => lhs; try simp only [List.set_cons_succ, List.set_cons_zero, List.set, List.cons_append, List.nil_append, List.append_eq, List.append_assoc, spl, Nat.zero_add, Nat.add_zero]) ?_
  refine AU2 ?_
  refine JLs (e_call rfl rfl (De.COct_okB (fun x hx => by simp [hx]) he2) ?_)
  rintro v l' ⟨lo, e3, ho, he3, rfl⟩
  rw [(oct_take0 (s := q.au) (by omega)).1] at ho
  rw [(oct_take0 (s := q.au) (by omega)).2] at he3
  obtain ⟨Ao, co, rfl, hso, hco, hno⟩ := De.own_src (W := W) ho
  refine JL.perm (l' := e3 :: (_ :: _ :: _ :: (lo ++ _))) (perm_mid [_, _, _, _] lo _).symm ?_
  refine AU0 ?_
  refine JLs (e_store 2 rfl rfl rfl (vs := [.slice Ao q.au.length co]) rfl rfl rfl lE_ ?_)
  refine JL.cast (by conv => lhs; try simp only [List.set_cons_succ, List.set_cons_zero, List.set, List.cons_append, List.nil_append, List.append_eq, List.append_assoc, spl, Nat.zero_add, Nat.add_zero]) ?_
  refine AU2 ?_
  refine AU3 ?_
  refine JLs (e_store 3 rfl rfl rfl (vs := (Mg.ap q).cells (.slice Aw q.tk.bl.length cw) (.slice Ao q.au.length co)) rfl rfl rfl lE_ ?_)
  refine AU0 ?_
  refine JC.sub (l' := (b2, isC 207 ((Mg.ap q).cells (.slice Aw q.tk.bl.length cw) (.slice Ao q.au.length co))) :: (lo ++ (lw ++ (le ++ l)))) ((List.sublist_cons_self _ _).trans ((List.sublist_cons_self _ _).trans (List.sublist_cons_self _ _))) ?_
  exact JC.ret (ret_cell rfl rfl 0 rfl rfl rfl (List.sublist_cons_self _ _) ⟨(.slice Aw q.tk.bl.length cw), (.slice Ao q.au.length co), lo ++ (lw ++ le), rfl, ⟨⟨Aw, cw, rfl, hsw.mono fun e he => by simp [he], hcw, hnw⟩, ⟨Ao, co, rfl, hso.mono fun e he => by simp [he], hco, hno⟩⟩, by simp only [List.append_assoc]⟩)
end Go.Proofs.YtbalcgjphkdecaaGreatDoor.To
namespace Go.Proofs.YtbalcgjphkdecaaGreatDoor.To
open Go.RowKit Go.Lg
set_option maxRecDepth 100000
theorem two_tm {a b : Int} (h1 : tm a) (h2 : tm b) : ∀ z ∈ [a, b], tm z := by
 intro z hz
 simp at hz
 rcases hz with rfl | rfl
 ·exact h1
 ·exact h2
theorem pa_src (p : Pa) : ∀ j u, (p.ses.map bv)[j]? = some u → p.cells[2 + j]? = some u := fun j u h => by
 have hj := (List.getElem?_eq_some_iff.1 h).1
 unfold Pa.cells
 rw [List.append_assoc, List.getElem?_append_right (by simp), List.getElem?_append_left (by simpa using hj)]
 simpa using h
theorem rp_src (p : RP) : ∀ j u, (p.ses.map bv)[j]? = some u → p.cells[0 + j]? = some u := fun j u h => by
 have hj := (List.getElem?_eq_some_iff.1 h).1
 unfold RP.cells
 rw [Nat.zero_add, List.getElem?_append_left hj]
 exact h
theorem Pa.byts_eq (p : Pa) : p.byts = De.wrapB 99 (prB p.cl ++ (octB p.ses ++ (texB p.tr ++ (intB p.st ++ intB p.en)))) := by simp [Pa.byts, wrapL]
theorem Au.byts_eq (p : Au) : p.byts = De.wrapB 98 (prB p.cl ++ (intB p.tm_ ++ intB p.sq)) := by simp [Au.byts, wrapL]
theorem RP.byts_eq (p : RP) : p.byts = De.wrapB 122 (octB p.ses ++ (prB p.sv_ ++ (intB p.st ++ (intB p.en ++ intB p.nc)))) := by simp [RP.byts, wrapL]
attribute [local irreducible] JC JL JD RN RT Eff Yld YldIf Tr partsL okR splitL wordB joinD fit betweenS laidS viaS De.wrapB De.num De.clampI prB tkB intB octB texB De.takeS De.intS De.octS De.nxtS De.inS De.numS De.nmxS
set_option maxHeartbeats 8000000 in
theorem EncodePart_ok {p : Pa} (h : p.good) {W : World} {l : List Ent} : Tr Pg 207 #[.agg p.cells.toArray] W l fun v l' => ∃ v1 le, v = .tuple #[v1, iv 0] ∧ OwnB v1 p.byts le ∧ l' = le ++ l := by
 have hb : p.byts.length ≤ 2000 := by have := Pa.byts_le h; omega
 have hsrc := pa_src p
 obtain ⟨g1, g2, g3, g4, g5⟩ := h
 have b1 := prB_le g1.1
 have b2 := octB_le p.ses
 have b3 := texB_le p.tr
 have b33 := g3.1
 have b4 := intB_le p.st
 have b5 := intB_le p.en
 obtain ⟨cl, ses, tr, st, en⟩ := p
 dsimp only at *
 obtain ⟨ka, kb, kc, kd, ke, kf, kg, ki, kj, kk, kl, km, kn, ko, kp, kq, kA, kB, kC, kD, kE, kF, kG, kI, kJ, kK, kL, kM, kN, kO, kP, kQ, rfl⟩ := len32 g2
 refine Tr.of_code (args := [_]) Tryz.func207 rfl Tryz.ntmps207 lE_ ?_
 refine AU0 ?_
 refine JLs (e_box rfl rfl fun bx => ?_)
 refine AU0 ?_
 refine JC.drawn 38 rfl mixed ?_
 refine JDp 0 rfl (y_fieldAddr rfl) ?_
 refine JDr 1 0 rfl rfl (r_loadA rfl lE_ rfl) ?_
 refine JDp 16 rfl (y_fieldAddr rfl) ?_
 refine JDr 17 0 rfl rfl (r_loadA rfl lE_ rfl) ?_
 refine JDp 19 rfl (y_fieldAddr rfl) ?_
 refine JDp 20 rfl (y_sliceA (p := 0) (q := 32) rfl rfl rfl (by decide) (by decide) (by decide)) ?_
 refine JDp 22 rfl (y_fieldAddr rfl) ?_
 refine JDr 23 0 rfl rfl (r_load1 rfl rfl) ?_
 refine JDp 25 rfl (y_fieldAddr rfl) ?_
 refine JDr 26 0 rfl rfl (r_load1 rfl rfl) ?_
 refine JDp 28 rfl (y_fieldAddr rfl) ?_
 refine JDr 29 0 rfl rfl (r_load1 rfl rfl) ?_
 refine JDe 2 rfl (e_call rfl rfl (IsPrinc_yes (p := cl) g1) ?_)
 rintro v l' ⟨rfl, rfl⟩
 refine ⟨tok_, ?_⟩
 refine JDp 3 rfl y_mv ?_
 refine JDp 4 rfl (y_fieldAddr rfl) ?_
 refine JDr 5 0 rfl rfl (r_load1 rfl rfl) ?_
 refine JDe 6 rfl (e_call rfl rfl (isText_yes g3) ?_)
 rintro v l' ⟨rfl, rfl⟩
 refine ⟨tok_, ?_⟩
 refine JDp 7 rfl (y_pick_t rfl (by conv => lhs; whnf)) ?_
 refine JDp 8 rfl y_mv ?_
 refine JDp 9 rfl (y_fieldAddr rfl) ?_
 refine JDr 10 0 rfl rfl (r_load1 rfl rfl) ?_
 refine JDp 11 rfl (y_fieldAddr rfl) ?_
 refine JDr 12 0 rfl rfl (r_load1 rfl rfl) ?_
 refine JDe 13 rfl (e_buildSlice (cells := [iv st, iv en]) [iv st, iv en] rfl lE_ rfl (by simp [Value.cells]) rfl fun b7 => ⟨tok_, ?_⟩)
 refine JDe 14 rfl (e_call rfl rfl (areTimes_yes (zs := [st, en]) rfl lE_ (two_tm g4 g5) (Src.whole (List.mem_cons_self ..))) ?_)
 rintro v l' ⟨rfl, rfl⟩
 refine ⟨tok_, ?_⟩
 refine JDp 15 rfl (y_pick_t rfl (by conv => lhs; whnf)) ?_
 refine JDe 18 rfl (e_call rfl rfl (princ_ok (p := cl) g1.1) ?_)
 rintro v l' ⟨le1, ho1, rfl⟩
 obtain ⟨A1, c1, rfl, hs1, hc1, hn1⟩ := De.own_src (W := W) ho1
 refine ⟨tok_, ?_⟩
 refine JDe 21 rfl (e_call rfl rfl (Octets_bv (v := .slice (some ⟨bx, 0 + 2, none⟩) 32 32) (bs := [ka, kb, kc, kd, ke, kf, kg, ki, kj, kk, kl, km, kn, ko, kp, kq, kA, kB, kC, kD, kE, kF, kG, kI, kJ, kK, kL, kM, kN, kO, kP, kQ]) lE_ ⟨_, 32, rfl, Src.cells (by simp; exact Or.inr (Or.inr (Or.inl rfl))) 2 hsrc, Nat.le_refl _, fun h => by cases h⟩) ?_)
 rintro v l' ⟨le2, ho2, rfl⟩
 obtain ⟨A2, c2, rfl, hs2, hc2, hn2⟩ := De.own_src (W := W) ho2
 refine ⟨tok_, ?_⟩
 refine JDe 24 rfl (e_call rfl rfl (Text_bv (s := tr) (by omega)) ?_)
 rintro v l' ⟨le3, ho3, rfl⟩
 obtain ⟨A3, c3, rfl, hs3, hc3, hn3⟩ := De.own_src (W := W) ho3
 refine ⟨tok_, ?_⟩
 refine JDe 27 rfl (e_call rfl rfl (Int_bv st) ?_)
 rintro v l' ⟨le4, ho4, rfl⟩
 obtain ⟨A4, c4, rfl, hs4, hc4, hn4⟩ := De.own_src (W := W) ho4
 refine ⟨tok_, ?_⟩
 refine JDe 30 rfl (e_call rfl rfl (Int_bv en) ?_)
 rintro v l' ⟨le5, ho5, rfl⟩
 obtain ⟨A5, c5, rfl, hs5, hc5, hn5⟩ := De.own_src (W := W) ho5
 refine ⟨tok_, ?_⟩
 refine JDe 31 rfl (e_buildSlice (cells := [.slice A1 (prB cl).length c1, .slice A2 (octB _).length c2, .slice A3 (texB tr).length c3, .slice A4 (intB st).length c4, .slice A5 (intB en).length c5]) [.slice A1 (prB cl).length c1, .slice A2 (octB _).length c2, .slice A3 (texB tr).length c3, .slice A4 (intB st).length c4, .slice A5 (intB en).length c5] rfl lE_ rfl (by simp [Value.cells]) rfl fun b8 => ⟨tok_, ?_⟩)
 refine JDe 32 rfl (e_call rfl rfl (De.Wrap_ok 99 (bss := [prB cl, octB _, texB tr, intB st, intB en]) rfl (by unfold maxLen; decide) (rowsL [(A1, c1, prB cl), (A2, c2, octB _), (A3, c3, texB tr), (A4, c4, intB st), (A5, c5, intB en)] (List.mem_cons_self ..) ⟨⟨hs1.mono fun e he => by simp [he], hn1⟩, ⟨hs2.mono fun e he => by simp [he], hn2⟩, ⟨hs3.mono fun e he => by simp [he], hn3⟩, ⟨hs4.mono fun e he => by simp [he], hn4⟩, ⟨hs5.mono fun e he => by simp [he], hn5⟩, trivial⟩) (by simp only [List.flatten_cons, List.flatten_nil, List.length_append, List.length_nil]; omega)) ?_)
 rintro v l' ⟨le9, ho9, rfl⟩
 refine ⟨tok_, ?_⟩
 refine JDe 33 rfl (e_call rfl rfl (limited_ok hb (BV.mono (BV.own (W := W) ho9) fun e he => by simp [he])) ?_)
 rintro v' l' ⟨rfl, rfl⟩
 refine ⟨tok_, ?_⟩
 refine JDp 34 rfl (y_extract rfl rfl) ?_
 refine JDp 35 rfl (y_extract rfl rfl) ?_
 refine JDp 36 rfl y_as ?_
 refine JDp 37 rfl y_as ?_
 refine JDd ?_
 refine AU0 ?_
 refine JC.sub (l' := le9 ++ l) (by repeat (first | exact List.Sublist.refl _ | apply List.Sublist.append_left | apply List.Sublist.cons | refine List.Sublist.trans ?_ (List.sublist_append_right _ _))) ?_
 exact JC.ret (RT.two rfl rfl (by conv => lhs; whnf) (by conv => lhs; whnf) ⟨v, le9, rfl, ho9, rfl⟩)
set_option maxHeartbeats 8000000 in
theorem EncodeAuthn_ok {p : Au} (h : p.good) {W : World} {l : List Ent} : Tr Pg 120 #[.agg p.cells.toArray] W l fun v l' => ∃ v1 le, v = .tuple #[v1, iv 0] ∧ OwnB v1 p.byts le ∧ l' = le ++ l := by
 have hb : p.byts.length ≤ 2000 := by have := Au.byts_le h; omega
 obtain ⟨g1, g2, g3⟩ := h
 have b1 := prB_le g1.1
 have b4 := intB_le p.tm_
 have b5 := intB_le p.sq
 obtain ⟨cl, st, en⟩ := p
 dsimp only at *
 refine Tr.of_code (args := [_]) Tryz.func120 rfl Tryz.ntmps120 lE_ ?_
 refine AU0 ?_
 refine JLs (e_box rfl rfl fun bx => ?_)
 refine AU0 ?_
 refine JC.drawn 30 rfl mixed ?_
 refine JDp 0 rfl (y_fieldAddr rfl) ?_
 refine JDr 1 0 rfl rfl (r_loadA rfl lE_ rfl) ?_
 refine JDp 14 rfl (y_fieldAddr rfl) ?_
 refine JDr 15 0 rfl rfl (r_loadA rfl lE_ rfl) ?_
 refine JDp 17 rfl (y_fieldAddr rfl) ?_
 refine JDr 18 0 rfl rfl (r_load1 rfl rfl) ?_
 refine JDp 20 rfl (y_fieldAddr rfl) ?_
 refine JDr 21 0 rfl rfl (r_load1 rfl rfl) ?_
 refine JDe 2 rfl (e_call rfl rfl (IsPrinc_yes (p := cl) g1) ?_)
 rintro v l' ⟨rfl, rfl⟩
 refine ⟨tok_, ?_⟩
 refine JDp 3 rfl y_mv ?_
 refine JDp 4 rfl (y_fieldAddr rfl) ?_
 refine JDr 5 0 rfl rfl (r_load1 rfl rfl) ?_
 refine JDe 6 rfl (e_buildSlice (cells := [iv st]) [iv st] rfl lE_ rfl (by simp [Value.cells]) rfl fun b7 => ⟨tok_, ?_⟩)
 refine JDe 7 rfl (e_call rfl rfl (areTimes_yes (zs := [st]) rfl lE_ (by intro z hz; simp at hz; rw [hz]; exact g2) (Src.whole (List.mem_cons_self ..))) ?_)
 rintro v l' ⟨rfl, rfl⟩
 refine ⟨tok_, ?_⟩
 refine JDp 8 rfl (y_pick_t rfl (by conv => lhs; whnf)) ?_
 refine JDp 9 rfl y_mv ?_
 refine JDp 10 rfl (y_fieldAddr rfl) ?_
 refine JDr 11 1 rfl rfl (r_load1 rfl rfl) ?_
 refine JDe 12 rfl (e_call rfl rfl (isNonce_yes g3) ?_)
 rintro v l' ⟨rfl, rfl⟩
 refine ⟨tok_, ?_⟩
 refine JDp 13 rfl (y_pick_t rfl (by conv => lhs; whnf)) ?_
 refine JDe 16 rfl (e_call rfl rfl (princ_ok (p := cl) g1.1) ?_)
 rintro v l' ⟨le1, ho1, rfl⟩
 obtain ⟨A1, c1, rfl, hs1, hc1, hn1⟩ := De.own_src (W := W) ho1
 refine ⟨tok_, ?_⟩
 refine JDe 19 rfl (e_call rfl rfl (Int_bv st) ?_)
 rintro v l' ⟨le2, ho2, rfl⟩
 obtain ⟨A2, c2, rfl, hs2, hc2, hn2⟩ := De.own_src (W := W) ho2
 refine ⟨tok_, ?_⟩
 refine JDe 22 rfl (e_call rfl rfl (Int_bv en) ?_)
 rintro v l' ⟨le3, ho3, rfl⟩
 obtain ⟨A3, c3, rfl, hs3, hc3, hn3⟩ := De.own_src (W := W) ho3
 refine ⟨tok_, ?_⟩
 refine JDe 23 rfl (e_buildSlice (cells := [.slice A1 (prB cl).length c1, .slice A2 (intB st).length c2, .slice A3 (intB en).length c3]) [.slice A1 (prB cl).length c1, .slice A2 (intB st).length c2, .slice A3 (intB en).length c3] rfl lE_ rfl (by simp [Value.cells]) rfl fun b8 => ⟨tok_, ?_⟩)
 refine JDe 24 rfl (e_call rfl rfl (De.Wrap_ok 98 (bss := [prB cl, intB st, intB en]) rfl (by unfold maxLen; decide) (rowsL [(A1, c1, prB cl), (A2, c2, intB st), (A3, c3, intB en)] (List.mem_cons_self ..) ⟨⟨hs1.mono fun e he => by simp [he], hn1⟩, ⟨hs2.mono fun e he => by simp [he], hn2⟩, ⟨hs3.mono fun e he => by simp [he], hn3⟩, trivial⟩) (by simp only [List.flatten_cons, List.flatten_nil, List.length_append, List.length_nil]; omega)) ?_)
 rintro v l' ⟨le9, ho9, rfl⟩
 refine ⟨tok_, ?_⟩
 refine JDe 25 rfl (e_call rfl rfl (limited_ok hb (BV.mono (BV.own (W := W) ho9) fun e he => by simp [he])) ?_)
 rintro v' l' ⟨rfl, rfl⟩
 refine ⟨tok_, ?_⟩
 refine JDp 26 rfl (y_extract rfl rfl) ?_
 refine JDp 27 rfl (y_extract rfl rfl) ?_
 refine JDp 28 rfl y_as ?_
 refine JDp 29 rfl y_as ?_
 refine JDd ?_
 refine AU0 ?_
 refine JC.sub (l' := le9 ++ l) (by repeat (first | exact List.Sublist.refl _ | apply List.Sublist.append_left | apply List.Sublist.cons | refine List.Sublist.trans ?_ (List.sublist_append_right _ _))) ?_
 exact JC.ret (RT.two rfl rfl (by conv => lhs; whnf) (by conv => lhs; whnf) ⟨v, le9, rfl, ho9, rfl⟩)
set_option maxHeartbeats 8000000 in
theorem EncodeRep_ok {p : RP} (h : p.good) {W : World} {l : List Ent} : Tr Pg 178 #[.agg p.cells.toArray] W l fun v l' => ∃ v1 le, v = .tuple #[v1, iv 0] ∧ OwnB v1 p.byts le ∧ l' = le ++ l := by
 have hb : p.byts.length ≤ 2000 := by have := RP.byts_le h; omega
 have hsrc := rp_src p
 obtain ⟨g2, g1, g3, g4, g5⟩ := h
 have b1 := prB_le g1.1
 have b2 := octB_le p.ses
 have b3 := intB_le p.st
 have b4 := intB_le p.en
 have b5 := intB_le p.nc
 obtain ⟨ses, cl, st, en, nc⟩ := p
 dsimp only at *
 obtain ⟨ka, kb, kc, kd, ke, kf, kg, ki, kj, kk, kl, km, kn, ko, kp, kq, kA, kB, kC, kD, kE, kF, kG, kI, kJ, kK, kL, kM, kN, kO, kP, kQ, rfl⟩ := len32 g2
 refine Tr.of_code (args := [_]) Tryz.func178 rfl Tryz.ntmps178 lE_ ?_
 refine AU0 ?_
 refine JLs (e_box rfl rfl fun bx => ?_)
 refine AU0 ?_
 refine JC.drawn 38 rfl mixed ?_
 refine JDp 0 rfl (y_fieldAddr rfl) ?_
 refine JDr 1 0 rfl rfl (r_loadA rfl lE_ rfl) ?_
 refine JDp 16 rfl (y_fieldAddr rfl) ?_
 refine JDp 17 rfl (y_sliceA (p := 0) (q := 32) rfl rfl rfl (by decide) (by decide) (by decide)) ?_
 refine JDp 19 rfl (y_fieldAddr rfl) ?_
 refine JDr 20 0 rfl rfl (r_loadA rfl lE_ rfl) ?_
 refine JDp 22 rfl (y_fieldAddr rfl) ?_
 refine JDr 23 0 rfl rfl (r_load1 rfl rfl) ?_
 refine JDp 25 rfl (y_fieldAddr rfl) ?_
 refine JDr 26 0 rfl rfl (r_load1 rfl rfl) ?_
 refine JDp 28 rfl (y_fieldAddr rfl) ?_
 refine JDr 29 0 rfl rfl (r_load1 rfl rfl) ?_
 refine JDe 2 rfl (e_call rfl rfl (IsPrinc_yes (p := cl) g1) ?_)
 rintro v l' ⟨rfl, rfl⟩
 refine ⟨tok_, ?_⟩
 refine JDp 3 rfl y_mv ?_
 refine JDp 4 rfl (y_fieldAddr rfl) ?_
 refine JDr 5 0 rfl rfl (r_load1 rfl rfl) ?_
 refine JDp 6 rfl (y_fieldAddr rfl) ?_
 refine JDr 7 0 rfl rfl (r_load1 rfl rfl) ?_
 refine JDe 8 rfl (e_buildSlice (cells := [iv st, iv en]) [iv st, iv en] rfl lE_ rfl (by simp [Value.cells]) rfl fun b7 => ⟨tok_, ?_⟩)
 refine JDe 9 rfl (e_call rfl rfl (areTimes_yes (zs := [st, en]) rfl lE_ (two_tm g3 g4) (Src.whole (List.mem_cons_self ..))) ?_)
 rintro v l' ⟨rfl, rfl⟩
 refine ⟨tok_, ?_⟩
 refine JDp 10 rfl (y_pick_t rfl (by conv => lhs; whnf)) ?_
 refine JDp 11 rfl y_mv ?_
 refine JDp 12 rfl (y_fieldAddr rfl) ?_
 refine JDr 13 1 rfl rfl (r_load1 rfl rfl) ?_
 refine JDe 14 rfl (e_call rfl rfl (isNonce_yes g5) ?_)
 rintro v l' ⟨rfl, rfl⟩
 refine ⟨tok_, ?_⟩
 refine JDp 15 rfl (y_pick_t rfl (by conv => lhs; whnf)) ?_
 refine JDe 18 rfl (e_call rfl rfl (Octets_bv (v := .slice (some ⟨bx, 0 + 0, none⟩) 32 32) (bs := [ka, kb, kc, kd, ke, kf, kg, ki, kj, kk, kl, km, kn, ko, kp, kq, kA, kB, kC, kD, kE, kF, kG, kI, kJ, kK, kL, kM, kN, kO, kP, kQ]) lE_ ⟨_, 32, rfl, Src.cells (by simp; exact Or.inr (Or.inl rfl)) 0 hsrc, Nat.le_refl _, fun h => by cases h⟩) ?_)
 rintro v l' ⟨le2, ho2, rfl⟩
 obtain ⟨A2, c2, rfl, hs2, hc2, hn2⟩ := De.own_src (W := W) ho2
 refine ⟨tok_, ?_⟩
 refine JDe 21 rfl (e_call rfl rfl (princ_ok (p := cl) g1.1) ?_)
 rintro v l' ⟨le1, ho1, rfl⟩
 obtain ⟨A1, c1, rfl, hs1, hc1, hn1⟩ := De.own_src (W := W) ho1
 refine ⟨tok_, ?_⟩
 refine JDe 24 rfl (e_call rfl rfl (Int_bv st) ?_)
 rintro v l' ⟨le3, ho3, rfl⟩
 obtain ⟨A3, c3, rfl, hs3, hc3, hn3⟩ := De.own_src (W := W) ho3
 refine ⟨tok_, ?_⟩
 refine JDe 27 rfl (e_call rfl rfl (Int_bv en) ?_)
 rintro v l' ⟨le4, ho4, rfl⟩
 obtain ⟨A4, c4, rfl, hs4, hc4, hn4⟩ := De.own_src (W := W) ho4
 refine ⟨tok_, ?_⟩
 refine JDe 30 rfl (e_call rfl rfl (Int_bv nc) ?_)
 rintro v l' ⟨le5, ho5, rfl⟩
 obtain ⟨A5, c5, rfl, hs5, hc5, hn5⟩ := De.own_src (W := W) ho5
 refine ⟨tok_, ?_⟩
 refine JDe 31 rfl (e_buildSlice (cells := [.slice A2 (octB _).length c2, .slice A1 (prB cl).length c1, .slice A3 (intB st).length c3, .slice A4 (intB en).length c4, .slice A5 (intB nc).length c5]) [.slice A2 (octB _).length c2, .slice A1 (prB cl).length c1, .slice A3 (intB st).length c3, .slice A4 (intB en).length c4, .slice A5 (intB nc).length c5] rfl lE_ rfl (by simp [Value.cells]) rfl fun b8 => ⟨tok_, ?_⟩)
 refine JDe 32 rfl (e_call rfl rfl (De.Wrap_ok 122 (bss := [octB _, prB cl, intB st, intB en, intB nc]) rfl (by unfold maxLen; decide) (rowsL [(A2, c2, octB _), (A1, c1, prB cl), (A3, c3, intB st), (A4, c4, intB en), (A5, c5, intB nc)] (List.mem_cons_self ..) ⟨⟨hs2.mono fun e he => by simp [he], hn2⟩, ⟨hs1.mono fun e he => by simp [he], hn1⟩, ⟨hs3.mono fun e he => by simp [he], hn3⟩, ⟨hs4.mono fun e he => by simp [he], hn4⟩, ⟨hs5.mono fun e he => by simp [he], hn5⟩, trivial⟩) (by simp only [List.flatten_cons, List.flatten_nil, List.length_append, List.length_nil]; omega)) ?_)
 rintro v l' ⟨le9, ho9, rfl⟩
 refine ⟨tok_, ?_⟩
 refine JDe 33 rfl (e_call rfl rfl (limited_ok hb (BV.mono (BV.own (W := W) ho9) fun e he => by simp [he])) ?_)
 rintro v' l' ⟨rfl, rfl⟩
 refine ⟨tok_, ?_⟩
 refine JDp 34 rfl (y_extract rfl rfl) ?_
 refine JDp 35 rfl (y_extract rfl rfl) ?_
 refine JDp 36 rfl y_as ?_
 refine JDp 37 rfl y_as ?_
 refine JDd ?_
 refine AU0 ?_
 refine JC.sub (l' := le9 ++ l) (by repeat (first | exact List.Sublist.refl _ | apply List.Sublist.append_left | apply List.Sublist.cons | refine List.Sublist.trans ?_ (List.sublist_append_right _ _))) ?_
 exact JC.ret (RT.two rfl rfl (by conv => lhs; whnf) (by conv => lhs; whnf) ⟨v, le9, rfl, ho9, rfl⟩)
theorem BytesEq_yes {v1 v2 : Value} {bs : Bs} {W : World} {l : List Ent} (h1 : BV W l v1 bs) (h2 : BV W l v2 bs) : Tr Pg 168 #[v1, v2] W l fun v l' => v = .bool true ∧ l' = l := by
 obtain ⟨A, c, rfl, hs, hc, hn⟩ := h1
 obtain ⟨B, d, rfl, hs', hc', hn'⟩ := h2
 refine Tr.of_code (args := [_, _]) Tryz.func168 rfl Tryz.ntmps168 lE_ ?_
 refine AU0 ?_
 refine JLs (e_str rfl rfl hs (fun h => List.eq_nil_of_length_eq_zero (hn h).1) ?_)
 refine AU0 ?_
 refine JLs (e_str rfl rfl hs' (fun h => List.eq_nil_of_length_eq_zero (hn' h).1) ?_)
 repeat (first | refine JLp (y_eqlS rfl rfl (r := true) (De.ba_self _)) ?_ | refine AS0 ?_)
 exact JC.ret (RT.one rfl rfl rfl ⟨rfl, rfl⟩)
end Go.Proofs.YtbalcgjphkdecaaGreatDoor.To
namespace Go.Proofs.YtbalcgjphkdecaaGreatDoor.To
open Go.RowKit Go.Lg
set_option maxRecDepth 100000
attribute [local irreducible] JC JL JD RN RT Eff Yld YldIf Tr partsL okR splitL wordB joinD fit betweenS laidS viaS De.wrapB De.num De.clampI prB tkB intB octB texB De.takeS De.intS De.octS De.nxtS De.inS De.numS De.nmxS
set_option maxHeartbeats 2000000 in
theorem againM {cs : List Value} (hcl : cs.length = 30) (h1 : cs.all (·.oneCell') = true) {bs : Bs} {A : Option Addr} {n c : Nat} {W : World} {l : List Ent} (hE : ∀ r, (∀ e ∈ l, e ∈ r) → Tr Pg 92 #[.agg cs.toArray] W r fun v l' => ∃ v1 le, v = .tuple #[v1, iv 0] ∧ OwnB v1 bs le ∧ l' = le ++ r) (hn : bs.length = n) (hv : SlV W l A n c (bs.map bv)) :
  Tr Pg 128 #[.slice A n c, .agg cs.toArray, .func (.func 92) #[] #[]] W l fun v l' => v = .tuple #[.agg cs.toArray, iv 0] ∧ l' = l := by
 subst hn
 refine Tr.of_code (args := [_, _, _]) Tryz.func128 rfl Tryz.ntmps128 lE_ ?_
 refine AU0 ?_
 refine JLs (e_box (cs := cs) rfl rfl fun bx => ?_)
 refine JLs (e_alloc fun b6 => ?_)
 refine AU0 ?_
 refine JLs (e_alloc fun b8 => ?_)
 refine AU0 ?_
 refine JL.read 2 rfl rfl (r_loadW rfl hcl) ?_
 refine JLs (e_call rfl rfl (hE _ fun e he => by simp [he]) ?_)
 rintro v l' ⟨v1, le, rfl, ho, rfl⟩
 refine AU0 ?_
 refine JLs (e_call rfl rfl (BytesEq_yes (bs := bs) (BV.mono (BV.own (W := W) ho) fun e he => by simp [he]) ⟨A, c, rfl, hv.mono fun e he => by simp [he]⟩) ?_)
 rintro v l' ⟨rfl, rfl⟩
 refine JL.perm (l' := _ :: _ :: _ :: (le ++ l)) (perm_mid [_, _, _] le l).symm ?_
 refine AU0 ?_
 refine JL.read 2 rfl rfl (r_loadW rfl hcl) ?_
 refine JLs (e_store 1 rfl rfl rfl (vs := cs) rfl hcl h1 lE_ ?_)
 rw [spl_all _ cs (by rw [hcl]; rfl)]
 refine AU0 ?_
 refine JC.ret (ret_cell2 rfl rfl 1 rfl rfl hcl (by conv => lhs; whnf) ?_ ⟨rfl, rfl⟩)
 exact ((List.sublist_append_right le l).trans (List.sublist_cons_self _ _)).trans ((List.sublist_cons_self _ _).trans (List.sublist_cons_self _ _))
set_option maxHeartbeats 2000000 in
theorem againR {cs : List Value} (hcl : cs.length = 37) (h1 : cs.all (·.oneCell') = true) {bs : Bs} {A : Option Addr} {n c : Nat} {W : World} {l : List Ent} (hE : ∀ r, (∀ e ∈ l, e ∈ r) → Tr Pg 178 #[.agg cs.toArray] W r fun v l' => ∃ v1 le, v = .tuple #[v1, iv 0] ∧ OwnB v1 bs le ∧ l' = le ++ r) (hn : bs.length = n) (hv : SlV W l A n c (bs.map bv)) :
  Tr Pg 177 #[.slice A n c, .agg cs.toArray, .func (.func 178) #[] #[]] W l fun v l' => v = .tuple #[.agg cs.toArray, iv 0] ∧ l' = l := by
 subst hn
 refine Tr.of_code (args := [_, _, _]) Tryz.func177 rfl Tryz.ntmps177 lE_ ?_
 refine AU0 ?_
 refine JLs (e_box (cs := cs) rfl rfl fun bx => ?_)
 refine JLs (e_alloc fun b6 => ?_)
 refine AU0 ?_
 refine JLs (e_alloc fun b8 => ?_)
 refine AU0 ?_
 refine JL.read 2 rfl rfl (r_loadW rfl hcl) ?_
 refine JLs (e_call rfl rfl (hE _ fun e he => by simp [he]) ?_)
 rintro v l' ⟨v1, le, rfl, ho, rfl⟩
 refine AU0 ?_
 refine JLs (e_call rfl rfl (BytesEq_yes (bs := bs) (BV.mono (BV.own (W := W) ho) fun e he => by simp [he]) ⟨A, c, rfl, hv.mono fun e he => by simp [he]⟩) ?_)
 rintro v l' ⟨rfl, rfl⟩
 refine JL.perm (l' := _ :: _ :: _ :: (le ++ l)) (perm_mid [_, _, _] le l).symm ?_
 refine AU0 ?_
 refine JL.read 2 rfl rfl (r_loadW rfl hcl) ?_
 refine JLs (e_store 1 rfl rfl rfl (vs := cs) rfl hcl h1 lE_ ?_)
 rw [spl_all _ cs (by rw [hcl]; rfl)]
 refine AU0 ?_
 refine JC.ret (ret_cell2 rfl rfl 1 rfl rfl hcl (by conv => lhs; whnf) ?_ ⟨rfl, rfl⟩)
 exact ((List.sublist_append_right le l).trans (List.sublist_cons_self _ _)).trans ((List.sublist_cons_self _ _).trans (List.sublist_cons_self _ _))
set_option maxHeartbeats 2000000 in
theorem againP {cs : List Value} (hcl : cs.length = 37) (h1 : cs.all (·.oneCell') = true) {bs : Bs} {A : Option Addr} {n c : Nat} {W : World} {l : List Ent} (hE : ∀ r, (∀ e ∈ l, e ∈ r) → Tr Pg 207 #[.agg cs.toArray] W r fun v l' => ∃ v1 le, v = .tuple #[v1, iv 0] ∧ OwnB v1 bs le ∧ l' = le ++ r) (hn : bs.length = n) (hv : SlV W l A n c (bs.map bv)) :
  Tr Pg 218 #[.slice A n c, .agg cs.toArray, .func (.func 207) #[] #[]] W l fun v l' => v = .tuple #[.agg cs.toArray, iv 0] ∧ l' = l := by
 subst hn
 refine Tr.of_code (args := [_, _, _]) Tryz.func218 rfl Tryz.ntmps218 lE_ ?_
 refine AU0 ?_
 refine JLs (e_box (cs := cs) rfl rfl fun bx => ?_)
 refine JLs (e_alloc fun b6 => ?_)
 refine AU0 ?_
 refine JLs (e_alloc fun b8 => ?_)
 refine AU0 ?_
 refine JL.read 2 rfl rfl (r_loadW rfl hcl) ?_
 refine JLs (e_call rfl rfl (hE _ fun e he => by simp [he]) ?_)
 rintro v l' ⟨v1, le, rfl, ho, rfl⟩
 refine AU0 ?_
 refine JLs (e_call rfl rfl (BytesEq_yes (bs := bs) (BV.mono (BV.own (W := W) ho) fun e he => by simp [he]) ⟨A, c, rfl, hv.mono fun e he => by simp [he]⟩) ?_)
 rintro v l' ⟨rfl, rfl⟩
 refine JL.perm (l' := _ :: _ :: _ :: (le ++ l)) (perm_mid [_, _, _] le l).symm ?_
 refine AU0 ?_
 refine JL.read 2 rfl rfl (r_loadW rfl hcl) ?_
 refine JLs (e_store 1 rfl rfl rfl (vs := cs) rfl hcl h1 lE_ ?_)
 rw [spl_all _ cs (by rw [hcl]; rfl)]
 refine AU0 ?_
 refine JC.ret (ret_cell2 rfl rfl 1 rfl rfl hcl (by conv => lhs; whnf) ?_ ⟨rfl, rfl⟩)
 exact ((List.sublist_append_right le l).trans (List.sublist_cons_self _ _)).trans ((List.sublist_cons_self _ _).trans (List.sublist_cons_self _ _))
set_option maxHeartbeats 2000000 in
theorem againA {cs : List Value} (hcl : cs.length = 4) (h1 : cs.all (·.oneCell') = true) {bs : Bs} {A : Option Addr} {n c : Nat} {W : World} {l : List Ent} (hE : ∀ r, (∀ e ∈ l, e ∈ r) → Tr Pg 120 #[.agg cs.toArray] W r fun v l' => ∃ v1 le, v = .tuple #[v1, iv 0] ∧ OwnB v1 bs le ∧ l' = le ++ r) (hn : bs.length = n) (hv : SlV W l A n c (bs.map bv)) :
  Tr Pg 219 #[.slice A n c, .agg cs.toArray, .func (.func 120) #[] #[]] W l fun v l' => v = .tuple #[.agg cs.toArray, iv 0] ∧ l' = l := by
 subst hn
 refine Tr.of_code (args := [_, _, _]) Tryz.func219 rfl Tryz.ntmps219 lE_ ?_
 refine AU0 ?_
 refine JLs (e_box (cs := cs) rfl rfl fun bx => ?_)
 refine JLs (e_alloc fun b6 => ?_)
 refine AU0 ?_
 refine JLs (e_alloc fun b8 => ?_)
 refine AU0 ?_
 refine JL.read 2 rfl rfl (r_loadW rfl hcl) ?_
 refine JLs (e_call rfl rfl (hE _ fun e he => by simp [he]) ?_)
 rintro v l' ⟨v1, le, rfl, ho, rfl⟩
 refine AU0 ?_
 refine JLs (e_call rfl rfl (BytesEq_yes (bs := bs) (BV.mono (BV.own (W := W) ho) fun e he => by simp [he]) ⟨A, c, rfl, hv.mono fun e he => by simp [he]⟩) ?_)
 rintro v l' ⟨rfl, rfl⟩
 refine JL.perm (l' := _ :: _ :: _ :: (le ++ l)) (perm_mid [_, _, _] le l).symm ?_
 refine AU0 ?_
 refine JL.read 2 rfl rfl (r_loadW rfl hcl) ?_
 refine JLs (e_store 1 rfl rfl rfl (vs := cs) rfl hcl h1 lE_ ?_)
 rw [spl_all _ cs (by rw [hcl]; rfl)]
 refine AU0 ?_
 refine JC.ret (ret_cell2 rfl rfl 1 rfl rfl hcl (by conv => lhs; whnf) ?_ ⟨rfl, rfl⟩)
 exact ((List.sublist_append_right le l).trans (List.sublist_cons_self _ _)).trans ((List.sublist_cons_self _ _).trans (List.sublist_cons_self _ _))
theorem Decode_ok {m : Mg} (hg : m.good) {v : Value} {W : World} {l : List Ent} (hv : BV W l v m.byts) : Tr Pg 95 #[v] W l fun v l' =>
  ∃ w1 w2 le, v = .tuple #[.agg (m.cells w1 w2).toArray, iv 0] ∧ m.at_ W le w1 w2 ∧ l' = le ++ l := by
 obtain ⟨A, c, rfl, hs⟩ := hv
 refine Tr.of_code (args := [_]) Tryz.func95 rfl Tryz.ntmps95 lE_ ?_
 refine AU0 ?_
 refine JLs (e_alloc fun b2 => ?_)
 refine AU0 ?_
 refine JLs (e_call rfl rfl (taken_ok hg rfl (SlV.mono hs fun e he => by simp [he])) ?_)
 rintro v l' ⟨w1, w2, le, rfl, hm, rfl⟩
 have hcl : (m.cells w1 w2).length = 30 := by cases m <;> rfl
 have h1 : (m.cells w1 w2).all (·.oneCell') = true := by
  obtain ⟨⟨_, _, rfl, -⟩, ⟨_, _, rfl, -⟩⟩ := hm
  cases m <;> rfl
 refine JLs (e_call rfl rfl (againM (bs := m.byts) hcl h1 (fun r hr => Encode_mg hg ⟨hm.1.mono fun e he => hr e (by simp [he]), hm.2.mono fun e he => hr e (by simp [he])⟩) rfl (SlV.mono hs fun e he => by simp [he])) ?_)
 rintro v l' ⟨rfl, rfl⟩
 refine JL.perm (l' := _ :: (le ++ l)) (perm_mid [_] le l).symm ?_
 refine AU0 ?_
 refine JLs (e_store 0 rfl rfl rfl (vs := m.cells w1 w2) rfl hcl h1 lE_ ?_)
 rw [spl_all _ (m.cells w1 w2) (by rw [hcl]; rfl)]
 refine AU0 ?_
 exact JC.ret (ret_cell2 rfl rfl 0 rfl rfl hcl (by conv => lhs; whnf) (List.sublist_cons_self _ _) ⟨w1, w2, le, rfl, hm, rfl⟩)
set_option maxHeartbeats 4000000 in
theorem tkey_ok {ses : Bs} (h : ses.length = 32) {rest : Bs} {W : World} {r0 r : List Ent} (hr : ∀ x ∈ r0, x ∈ r) {cb : Nat} {e : Ent} (hc : De.CurE W r0 cb (some (octB ses ++ rest)) e) : Tr Pg 176 #[.agg #[De.ptr cb]] W (e :: r) fun v l' =>
  ∃ e', v = .agg (ses.map bv).toArray ∧ De.CurE W r0 cb (some rest) e' ∧ l' = e' :: r := by
 obtain ⟨q1, q2⟩ := oct_take (s := ses) (by omega) rest
 have hml : (ses.map bv).length = 32 := by rw [List.length_map]; exact h
 refine Tr.of_code (args := [_]) Tryz.func176 rfl Tryz.ntmps176 lE_ ?_
 refine AU0 ?_
 refine JLs (e_box (cs := [De.ptr cb]) rfl rfl fun bx => ?_)
 refine JLs (e_alloc fun b2 => ?_)
 repeat (first | refine JLp (y_build (cells := ((List.replicate 32 (0 : UInt8)).map bv).toArray) rfl) ?_ | refine AS0 ?_)
 refine JLs (e_alloc fun b3 => ?_)
 refine JLs (e_store 0 rfl rfl rfl (vs := (List.replicate 32 (0 : UInt8)).map bv) rfl rfl rfl lE_ ?_)
 refine JL.cast (l' := (b3, isC 55 ((List.replicate 32 (0 : UInt8)).map bv)) :: (b2, isC 55 ((List.replicate 32 (0 : UInt8)).map bv)) :: (bx, isC 309 [De.ptr cb]) :: e :: r) rfl ?_
 refine AU0 ?_
 refine JC.drawn 5 rfl mixed ?_
 refine JDp 0 rfl (y_sliceA (p := 0) (q := 32) rfl rfl rfl (by decide) (by decide) (by decide)) ?_
 refine JDp 1 rfl (y_fieldAddr rfl) ?_
 refine JDr 2 2 rfl rfl (r_load1 rfl rfl) ?_
 refine JDe 3 rfl (e_call rfl rfl (Tr.perm (l' := e :: ((b3, isC 55 ((List.replicate 32 (0 : UInt8)).map bv)) :: (b2, isC 55 ((List.replicate 32 (0 : UInt8)).map bv)) :: (bx, isC 309 [De.ptr cb]) :: r)) prm_ (De.COct_okB (fun x hx => by simp [hr x hx]) hc)) ?_)
 rintro v l' ⟨lo, e2, ho, he2, rfl⟩
 rw [q1, h] at ho
 rw [q2] at he2
 obtain ⟨Ao, co, rfl, hso, hco, hno⟩ := De.own_src (W := W) ho
 refine ⟨tok_, ?_⟩
 refine JDe 4 rfl (Eff.perm (l' := (b3, isC 55 ((List.replicate 32 (0 : UInt8)).map bv)) :: ((b2, isC 55 ((List.replicate 32 (0 : UInt8)).map bv)) :: (bx, isC 309 [De.ptr cb]) :: e2 :: (lo ++ r))) prm_ (e_copy 0 rfl rfl rfl hml rfl (by omega) (hso.mono fun e he => by simp [he]) (bv_one ses) ?_))
 refine ⟨tok_, ?_⟩
 refine JDd ?_
 refine RN.cast (l' := (b3, isC 55 (ses.map bv)) :: ((b2, isC 55 ((List.replicate 32 (0 : UInt8)).map bv)) :: (bx, isC 309 [De.ptr cb]) :: e2 :: (lo ++ r))) rfl ?_
 refine AU0 ?_
 refine JL.read 0 rfl rfl (r_loadW rfl hml) ?_
 refine JLs (e_store 1 rfl rfl rfl (vs := ses.map bv) rfl hml (List.all_eq_true.2 (bv_one ses)) lE_ ?_)
 rw [spl_all _ (ses.map bv) (by rw [hml]; rfl)]
 refine AU0 ?_
 refine JC.ret (ret_cell rfl rfl 1 rfl rfl hml ?_ ⟨e2, rfl, he2, rfl⟩)
 exact (by repeat (first | exact List.Sublist.refl _ | apply List.Sublist.append_left | (refine List.Sublist.cons_cons _ ?_) | apply List.Sublist.cons | refine List.Sublist.trans ?_ (List.sublist_append_right _ _)))
end Go.Proofs.YtbalcgjphkdecaaGreatDoor.To
namespace Go.Proofs.YtbalcgjphkdecaaGreatDoor.To
open Go.RowKit Go.Lg
set_option maxRecDepth 100000
attribute [local irreducible] JC JL JD RN RT Eff Yld YldIf Tr partsL okR splitL wordB joinD fit betweenS laidS viaS De.wrapB De.num De.clampI prB tkB intB octB texB De.takeS De.intS De.octS De.nxtS De.inS De.numS De.nmxS Pa.byts Au.byts RP.byts
set_option maxHeartbeats 8000000 in
theorem DecodeAuthn_ok {p : Au} (hg : p.good) {v : Value} {W : World} {l : List Ent} (hv : BV W l v p.byts) : Tr Pg 181 #[v] W l fun v l' => v = .tuple #[.agg p.cells.toArray, iv 0] ∧ l' = l := by
 have hbl : (prB p.cl ++ (intB p.tm_ ++ intB p.sq)).length ≤ 3000 := by
  have := Au.byts_le hg
  rw [Au.byts_eq, De.wrapB_len] at this
  omega
 have heq := Au.byts_eq p
 obtain ⟨g1, g3, g4⟩ := id hg
 obtain ⟨cl, st, en⟩ := p
 dsimp only at g1 g3 g4 hbl heq
 obtain ⟨A, c, rfl, hs⟩ := hv
 refine Tr.of_code (args := [_]) Tryz.func181 rfl Tryz.ntmps181 lE_ ?_
 refine AU0 ?_
 refine JLs (e_alloc fun b2 => ?_)
 refine AU0 ?_
 refine JLs (e_call rfl rfl (in_ok (tag := 98) hbl heq rfl (SlV.mono hs fun e he => by simp [he])) ?_)
 rintro v l' ⟨db, le, e1, rfl, he1, rfl⟩
 refine JLs (e_alloc fun b4 => ?_)
 refine JLs (e_store 0 rfl rfl rfl (vs := [De.ptr db]) rfl rfl rfl lE_ ?_)
 refine JL.perm (l' := e1 :: ((b4, isC 309 [De.ptr db]) :: (_ :: (le ++ l)))) (by refine List.Perm.trans (List.Perm.swap ..) ?_; refine List.Perm.cons _ (List.Perm.cons _ ?_); exact (perm_mid [_] le l).symm) ?_
 refine AU2 ?_
 refine JLs (e_call rfl rfl (tprinc_ok (p := cl) g1.1 (fun x hx => by simp [hx]) he1) ?_)
 rintro v l' ⟨e2, rfl, he2, rfl⟩
 repeat (first | refine JLp (y_build (cells := ([sv cl.1, sv cl.2, .int .i64 0, .int .i64 0]).toArray) rfl) ?_ | refine AS0 ?_)
 refine JLs (e_alloc fun b5 => ?_)
 refine JLs (e_store 0 rfl rfl rfl (vs := [sv cl.1, sv cl.2, .int .i64 0, .int .i64 0]) rfl rfl rfl lE_ ?_)
 refine JL.perm (l' := e2 :: ((b4, isC 309 [De.ptr db]) :: (b5, isC 250 ([sv cl.1, sv cl.2, .int .i64 0, .int .i64 0])) :: (_ :: (le ++ l)))) (by refine List.Perm.trans (List.Perm.swap ..) ?_; exact List.Perm.cons _ (List.Perm.swap ..)) ?_
 refine AU2 ?_
 refine JLs (e_call rfl rfl (De.CInt_okB (fun x hx => by simp [hx]) he2) ?_)
 rintro v l' ⟨e3, rfl, he3, rfl⟩
 rw [(int_take g3 _).2] at he3
 rw [(int_take g3 _).1]
 refine AU0 ?_
 refine JLs (e_store 2 rfl rfl rfl (vs := [iv st]) rfl rfl rfl lE_ ?_)
 refine JL.cast (by conv => lhs; try simp only [List.set_cons_succ, List.set_cons_zero, List.set, List.cons_append, List.nil_append, List.append_eq, List.append_assoc, spl, Nat.zero_add, Nat.add_zero]) ?_
 refine AU2 ?_
 refine JLs (e_call rfl rfl (De.CInt_okB (fun x hx => by simp [hx]) he3) ?_)
 rintro v l' ⟨e4, rfl, he4, rfl⟩
 rw [(int_take0 g4).2] at he4
 rw [(int_take0 g4).1]
 refine AU0 ?_
 refine JLs (e_store 2 rfl rfl rfl (vs := [iv en]) rfl rfl rfl lE_ ?_)
 refine JL.cast (by conv => lhs; try simp only [List.set_cons_succ, List.set_cons_zero, List.set, List.cons_append, List.nil_append, List.append_eq, List.append_assoc, spl, Nat.zero_add, Nat.add_zero]) ?_
 refine AU2 ?_
 refine AU0 ?_
 refine JL.read 2 rfl rfl (r_loadW (cs := (Au.mk cl st en).cells) rfl rfl) ?_
 refine JLs (e_call rfl rfl (againA (bs := (Au.mk cl st en).byts) rfl rfl (fun r hr => EncodeAuthn_ok hg) rfl (SlV.mono hs fun e he => by simp [he])) ?_)
 rintro v l' ⟨rfl, rfl⟩
 refine AU0 ?_
 refine JLs (e_store 3 rfl rfl rfl (vs := (Au.mk cl st en).cells) rfl rfl rfl lE_ ?_)
 refine AU0 ?_
 refine JC.ret (ret_cell2 rfl rfl 3 rfl rfl (cs := (Au.mk cl st en).cells) rfl (by conv => lhs; whnf) ?_ ⟨rfl, rfl⟩)
 exact (List.sublist_append_right le l).trans (List.sublist_append_right [_, _, _, _] _)
set_option maxHeartbeats 8000000 in
theorem DecodePart_ok {p : Pa} (hg : p.good) {v : Value} {W : World} {l : List Ent} (hv : BV W l v p.byts) : Tr Pg 180 #[v] W l fun v l' => v = .tuple #[.agg p.cells.toArray, iv 0] ∧ l' = l := by
 have hbl : (prB p.cl ++ (octB p.ses ++ (texB p.tr ++ (intB p.st ++ intB p.en)))).length ≤ 3000 := by
  have := Pa.byts_le hg
  rw [Pa.byts_eq, De.wrapB_len] at this
  omega
 have heq := Pa.byts_eq p
 obtain ⟨g1, g2, g3, g4, g5⟩ := id hg
 have g33 := g3.1
 obtain ⟨cl, ses, tr, st, en⟩ := p
 dsimp only at g1 g2 g3 g4 g5 g33 hbl heq
 obtain ⟨ka, kb, kc, kd, ke, kf, kg, ki, kj, kk, kl, km, kn, ko, kp, kq, kA, kB, kC, kD, kE, kF, kG, kI, kJ, kK, kL, kM, kN, kO, kP, kQ, rfl⟩ := len32 g2
 obtain ⟨A, c, rfl, hs⟩ := hv
 refine Tr.of_code (args := [_]) Tryz.func180 rfl Tryz.ntmps180 lE_ ?_
 refine AU0 ?_
 refine JLs (e_alloc fun b2 => ?_)
 refine AU0 ?_
 refine JLs (e_call rfl rfl (in_ok (tag := 99) hbl heq rfl (SlV.mono hs fun e he => by simp [he])) ?_)
 rintro v l' ⟨db, le, e1, rfl, he1, rfl⟩
 refine JLs (e_alloc fun b4 => ?_)
 refine JLs (e_store 0 rfl rfl rfl (vs := [De.ptr db]) rfl rfl rfl lE_ ?_)
 refine JL.perm (l' := e1 :: ((b4, isC 309 [De.ptr db]) :: (_ :: (le ++ l)))) (by refine List.Perm.trans (List.Perm.swap ..) ?_; refine List.Perm.cons _ (List.Perm.cons _ ?_); exact (perm_mid [_] le l).symm) ?_
 refine AU2 ?_
 refine JLs (e_call rfl rfl (tprinc_ok (p := cl) g1.1 (fun x hx => by simp [hx]) he1) ?_)
 rintro v l' ⟨e2, rfl, he2, rfl⟩
 repeat (first | refine JLp (y_build (cells := ([sv cl.1, sv cl.2, .int .u8 0, .int .u8 0, .int .u8 0, .int .u8 0, .int .u8 0, .int .u8 0, .int .u8 0, .int .u8 0, .int .u8 0, .int .u8 0, .int .u8 0, .int .u8 0, .int .u8 0, .int .u8 0, .int .u8 0, .int .u8 0, .int .u8 0, .int .u8 0, .int .u8 0, .int .u8 0, .int .u8 0, .int .u8 0, .int .u8 0, .int .u8 0, .int .u8 0, .int .u8 0, .int .u8 0, .int .u8 0, .int .u8 0, .int .u8 0, .int .u8 0, .int .u8 0, .string ByteArray.empty, .int .i64 0, .int .i64 0]).toArray) rfl) ?_ | refine AS0 ?_)
 refine JLs (e_alloc fun b5 => ?_)
 refine JLs (e_store 0 rfl rfl rfl (vs := [sv cl.1, sv cl.2, .int .u8 0, .int .u8 0, .int .u8 0, .int .u8 0, .int .u8 0, .int .u8 0, .int .u8 0, .int .u8 0, .int .u8 0, .int .u8 0, .int .u8 0, .int .u8 0, .int .u8 0, .int .u8 0, .int .u8 0, .int .u8 0, .int .u8 0, .int .u8 0, .int .u8 0, .int .u8 0, .int .u8 0, .int .u8 0, .int .u8 0, .int .u8 0, .int .u8 0, .int .u8 0, .int .u8 0, .int .u8 0, .int .u8 0, .int .u8 0, .int .u8 0, .int .u8 0, .string ByteArray.empty, .int .i64 0, .int .i64 0]) rfl rfl rfl lE_ ?_)
 refine JL.perm (l' := e2 :: ((b4, isC 309 [De.ptr db]) :: (b5, isC 269 ([sv cl.1, sv cl.2, .int .u8 0, .int .u8 0, .int .u8 0, .int .u8 0, .int .u8 0, .int .u8 0, .int .u8 0, .int .u8 0, .int .u8 0, .int .u8 0, .int .u8 0, .int .u8 0, .int .u8 0, .int .u8 0, .int .u8 0, .int .u8 0, .int .u8 0, .int .u8 0, .int .u8 0, .int .u8 0, .int .u8 0, .int .u8 0, .int .u8 0, .int .u8 0, .int .u8 0, .int .u8 0, .int .u8 0, .int .u8 0, .int .u8 0, .int .u8 0, .int .u8 0, .int .u8 0, .string ByteArray.empty, .int .i64 0, .int .i64 0])) :: (_ :: (le ++ l)))) (by refine List.Perm.trans (List.Perm.swap ..) ?_; exact List.Perm.cons _ (List.Perm.swap ..)) ?_
 refine AU2 ?_
 refine JLs (e_call rfl rfl (tkey_ok g2 (fun x hx => by simp [hx]) he2) ?_)
 rintro v l' ⟨e3, rfl, he3, rfl⟩
 refine AU0 ?_
 refine JLs (e_store 2 rfl rfl rfl (vs := [ka, kb, kc, kd, ke, kf, kg, ki, kj, kk, kl, km, kn, ko, kp, kq, kA, kB, kC, kD, kE, kF, kG, kI, kJ, kK, kL, kM, kN, kO, kP, kQ].map bv) rfl rfl rfl lE_ ?_)
 refine JL.cast (by conv => lhs; try simp only [List.set_cons_succ, List.set_cons_zero, List.set, List.cons_append, List.nil_append, List.append_eq, List.append_assoc, spl, Nat.zero_add, Nat.add_zero]) ?_
 refine AU2 ?_
 refine JLs (e_call rfl rfl (De.CText_okB (fun x hx => by simp [hx]) he3) ?_)
 rintro v l' ⟨e4, rfl, he4, rfl⟩
 rw [(tex_take (s := tr) (by omega) _).2] at he4
 rw [(tex_take (s := tr) (by omega) _).1]
 refine AU0 ?_
 refine JLs (e_store 2 rfl rfl rfl (vs := [sv tr]) rfl rfl rfl lE_ ?_)
 refine JL.cast (by conv => lhs; try simp only [List.set_cons_succ, List.set_cons_zero, List.set, List.cons_append, List.nil_append, List.append_eq, List.append_assoc, spl, Nat.zero_add, Nat.add_zero]) ?_
 refine AU2 ?_
 refine JLs (e_call rfl rfl (De.CInt_okB (fun x hx => by simp [hx]) he4) ?_)
 rintro v l' ⟨e5, rfl, he5, rfl⟩
 rw [(int_take g4 _).2] at he5
 rw [(int_take g4 _).1]
 refine AU0 ?_
 refine JLs (e_store 2 rfl rfl rfl (vs := [iv st]) rfl rfl rfl lE_ ?_)
 refine JL.cast (by conv => lhs; try simp only [List.set_cons_succ, List.set_cons_zero, List.set, List.cons_append, List.nil_append, List.append_eq, List.append_assoc, spl, Nat.zero_add, Nat.add_zero]) ?_
 refine AU2 ?_
 refine JLs (e_call rfl rfl (De.CInt_okB (fun x hx => by simp [hx]) he5) ?_)
 rintro v l' ⟨e6, rfl, he6, rfl⟩
 rw [(int_take0 g5).2] at he6
 rw [(int_take0 g5).1]
 refine AU0 ?_
 refine JLs (e_store 2 rfl rfl rfl (vs := [iv en]) rfl rfl rfl lE_ ?_)
 refine JL.cast (by conv => lhs; try simp only [List.set_cons_succ, List.set_cons_zero, List.set, List.cons_append, List.nil_append, List.append_eq, List.append_assoc, spl, Nat.zero_add, Nat.add_zero]) ?_
 refine AU2 ?_
 refine AU0 ?_
 refine JL.read 2 rfl rfl (r_loadW (cs := (Pa.mk cl [ka, kb, kc, kd, ke, kf, kg, ki, kj, kk, kl, km, kn, ko, kp, kq, kA, kB, kC, kD, kE, kF, kG, kI, kJ, kK, kL, kM, kN, kO, kP, kQ] tr st en).cells) rfl rfl) ?_
 refine JLs (e_call rfl rfl (againP (bs := (Pa.mk cl [ka, kb, kc, kd, ke, kf, kg, ki, kj, kk, kl, km, kn, ko, kp, kq, kA, kB, kC, kD, kE, kF, kG, kI, kJ, kK, kL, kM, kN, kO, kP, kQ] tr st en).byts) rfl rfl (fun r hr => EncodePart_ok hg) rfl (SlV.mono hs fun e he => by simp [he])) ?_)
 rintro v l' ⟨rfl, rfl⟩
 refine AU0 ?_
 refine JLs (e_store 3 rfl rfl rfl (vs := (Pa.mk cl [ka, kb, kc, kd, ke, kf, kg, ki, kj, kk, kl, km, kn, ko, kp, kq, kA, kB, kC, kD, kE, kF, kG, kI, kJ, kK, kL, kM, kN, kO, kP, kQ] tr st en).cells) rfl rfl rfl lE_ ?_)
 refine AU0 ?_
 refine JC.ret (ret_cell2 rfl rfl 3 rfl rfl (cs := (Pa.mk cl [ka, kb, kc, kd, ke, kf, kg, ki, kj, kk, kl, km, kn, ko, kp, kq, kA, kB, kC, kD, kE, kF, kG, kI, kJ, kK, kL, kM, kN, kO, kP, kQ] tr st en).cells) rfl (by conv => lhs; whnf) ?_ ⟨rfl, rfl⟩)
 exact (List.sublist_append_right le l).trans (List.sublist_append_right [_, _, _, _] _)
end Go.Proofs.YtbalcgjphkdecaaGreatDoor.To
namespace Go.Proofs.YtbalcgjphkdecaaGreatDoor.To
open Go.RowKit Go.Lg
set_option maxRecDepth 100000
attribute [local irreducible] JC JL JD RN RT Eff Yld YldIf Tr partsL okR splitL wordB joinD fit betweenS laidS viaS De.wrapB De.num De.clampI prB tkB intB octB texB De.takeS De.intS De.octS De.nxtS De.inS De.numS De.nmxS Pa.byts Au.byts RP.byts
set_option maxHeartbeats 8000000 in
theorem DecodeRep_ok {p : RP} (hg : p.good) {v : Value} {W : World} {l : List Ent} (hv : BV W l v p.byts) : Tr Pg 131 #[v] W l fun v l' => v = .tuple #[.agg p.cells.toArray, iv 0] ∧ l' = l := by
 have hbl : (octB p.ses ++ (prB p.sv_ ++ (intB p.st ++ (intB p.en ++ intB p.nc)))).length ≤ 3000 := by
  have := RP.byts_le hg
  rw [RP.byts_eq, De.wrapB_len] at this
  omega
 have heq := RP.byts_eq p
 obtain ⟨g2, g1, g3, g4, g5⟩ := id hg
 obtain ⟨ses, cl, st, en, nc⟩ := p
 dsimp only at g1 g2 g3 g4 g5 hbl heq
 obtain ⟨ka, kb, kc, kd, ke, kf, kg, ki, kj, kk, kl, km, kn, ko, kp, kq, kA, kB, kC, kD, kE, kF, kG, kI, kJ, kK, kL, kM, kN, kO, kP, kQ, rfl⟩ := len32 g2
 obtain ⟨A, c, rfl, hs⟩ := hv
 refine Tr.of_code (args := [_]) Tryz.func131 rfl Tryz.ntmps131 lE_ ?_
 refine AU0 ?_
 refine JLs (e_alloc fun b2 => ?_)
 refine AU0 ?_
 refine JLs (e_call rfl rfl (in_ok (tag := 122) hbl heq rfl (SlV.mono hs fun e he => by simp [he])) ?_)
 rintro v l' ⟨db, le, e1, rfl, he1, rfl⟩
 refine JLs (e_alloc fun b4 => ?_)
 refine JLs (e_store 0 rfl rfl rfl (vs := [De.ptr db]) rfl rfl rfl lE_ ?_)
 refine JL.perm (l' := e1 :: ((b4, isC 309 [De.ptr db]) :: (_ :: (le ++ l)))) (by refine List.Perm.trans (List.Perm.swap ..) ?_; refine List.Perm.cons _ (List.Perm.cons _ ?_); exact (perm_mid [_] le l).symm) ?_
 refine AU2 ?_
 refine JLs (e_call rfl rfl (tkey_ok g2 (fun x hx => by simp [hx]) he1) ?_)
 rintro v l' ⟨e2, rfl, he2, rfl⟩
 repeat (first | refine JLp (y_build (cells := ([bv ka, bv kb, bv kc, bv kd, bv ke, bv kf, bv kg, bv ki, bv kj, bv kk, bv kl, bv km, bv kn, bv ko, bv kp, bv kq, bv kA, bv kB, bv kC, bv kD, bv kE, bv kF, bv kG, bv kI, bv kJ, bv kK, bv kL, bv kM, bv kN, bv kO, bv kP, bv kQ, .string ByteArray.empty, .string ByteArray.empty, .int .i64 0, .int .i64 0, .int .i64 0]).toArray) (by kernel_rfl)) ?_ | refine AS0 ?_)
 refine JLs (e_alloc fun b5 => ?_)
 refine JLs (e_store 0 rfl rfl rfl (vs := [bv ka, bv kb, bv kc, bv kd, bv ke, bv kf, bv kg, bv ki, bv kj, bv kk, bv kl, bv km, bv kn, bv ko, bv kp, bv kq, bv kA, bv kB, bv kC, bv kD, bv kE, bv kF, bv kG, bv kI, bv kJ, bv kK, bv kL, bv kM, bv kN, bv kO, bv kP, bv kQ, .string ByteArray.empty, .string ByteArray.empty, .int .i64 0, .int .i64 0, .int .i64 0]) rfl rfl rfl lE_ ?_)
 refine JL.perm (l' := e2 :: ((b4, isC 309 [De.ptr db]) :: (b5, isC 263 ([bv ka, bv kb, bv kc, bv kd, bv ke, bv kf, bv kg, bv ki, bv kj, bv kk, bv kl, bv km, bv kn, bv ko, bv kp, bv kq, bv kA, bv kB, bv kC, bv kD, bv kE, bv kF, bv kG, bv kI, bv kJ, bv kK, bv kL, bv kM, bv kN, bv kO, bv kP, bv kQ, .string ByteArray.empty, .string ByteArray.empty, .int .i64 0, .int .i64 0, .int .i64 0])) :: (_ :: (le ++ l)))) (by refine List.Perm.trans (List.Perm.swap ..) ?_; exact List.Perm.cons _ (List.Perm.swap ..)) ?_
 refine AU2 ?_
 refine JLs (e_call rfl rfl (tprinc_ok (p := cl) g1.1 (fun x hx => by simp [hx]) he2) ?_)
 rintro v l' ⟨e3, rfl, he3, rfl⟩
 refine AU0 ?_
 refine JLs (e_store 2 rfl rfl rfl (vs := enc2 cl) rfl rfl rfl lE_ ?_)
 refine JL.cast (by conv => lhs; try simp only [List.set_cons_succ, List.set_cons_zero, List.set, List.cons_append, List.nil_append, List.append_eq, List.append_assoc, spl, Nat.zero_add, Nat.add_zero]) ?_
 refine AU2 ?_
 refine JLs (e_call rfl rfl (De.CInt_okB (fun x hx => by simp [hx]) he3) ?_)
 rintro v l' ⟨e4, rfl, he4, rfl⟩
 rw [(int_take g3 _).2] at he4
 rw [(int_take g3 _).1]
 refine AU0 ?_
 refine JLs (e_store 2 rfl rfl rfl (vs := [iv st]) rfl rfl rfl lE_ ?_)
 refine JL.cast (by conv => lhs; try simp only [List.set_cons_succ, List.set_cons_zero, List.set, List.cons_append, List.nil_append, List.append_eq, List.append_assoc, spl, Nat.zero_add, Nat.add_zero]) ?_
 refine AU2 ?_
 refine JLs (e_call rfl rfl (De.CInt_okB (fun x hx => by simp [hx]) he4) ?_)
 rintro v l' ⟨e5, rfl, he5, rfl⟩
 rw [(int_take g4 _).2] at he5
 rw [(int_take g4 _).1]
 refine AU0 ?_
 refine JLs (e_store 2 rfl rfl rfl (vs := [iv en]) rfl rfl rfl lE_ ?_)
 refine JL.cast (by conv => lhs; try simp only [List.set_cons_succ, List.set_cons_zero, List.set, List.cons_append, List.nil_append, List.append_eq, List.append_assoc, spl, Nat.zero_add, Nat.add_zero]) ?_
 refine AU2 ?_
 refine JLs (e_call rfl rfl (De.CInt_okB (fun x hx => by simp [hx]) he5) ?_)
 rintro v l' ⟨e6, rfl, he6, rfl⟩
 rw [(int_take0 g5).2] at he6
 rw [(int_take0 g5).1]
 refine AU0 ?_
 refine JLs (e_store 2 rfl rfl rfl (vs := [iv nc]) rfl rfl rfl lE_ ?_)
 refine JL.cast (by conv => lhs; try simp only [List.set_cons_succ, List.set_cons_zero, List.set, List.cons_append, List.nil_append, List.append_eq, List.append_assoc, spl, Nat.zero_add, Nat.add_zero]) ?_
 refine AU2 ?_
 refine AU0 ?_
 refine JL.read 2 rfl rfl (r_loadW (cs := (RP.mk [ka, kb, kc, kd, ke, kf, kg, ki, kj, kk, kl, km, kn, ko, kp, kq, kA, kB, kC, kD, kE, kF, kG, kI, kJ, kK, kL, kM, kN, kO, kP, kQ] cl st en nc).cells) rfl rfl) ?_
 refine JLs (e_call rfl rfl (againR (bs := (RP.mk [ka, kb, kc, kd, ke, kf, kg, ki, kj, kk, kl, km, kn, ko, kp, kq, kA, kB, kC, kD, kE, kF, kG, kI, kJ, kK, kL, kM, kN, kO, kP, kQ] cl st en nc).byts) rfl rfl (fun r hr => EncodeRep_ok hg) rfl (SlV.mono hs fun e he => by simp [he])) ?_)
 rintro v l' ⟨rfl, rfl⟩
 refine AU0 ?_
 refine JLs (e_store 3 rfl rfl rfl (vs := (RP.mk [ka, kb, kc, kd, ke, kf, kg, ki, kj, kk, kl, km, kn, ko, kp, kq, kA, kB, kC, kD, kE, kF, kG, kI, kJ, kK, kL, kM, kN, kO, kP, kQ] cl st en nc).cells) rfl rfl rfl lE_ ?_)
 refine AU0 ?_
 refine JC.ret (ret_cell2 rfl rfl 3 rfl rfl (cs := (RP.mk [ka, kb, kc, kd, ke, kf, kg, ki, kj, kk, kl, km, kn, ko, kp, kq, kA, kB, kC, kD, kE, kF, kG, kI, kJ, kK, kL, kM, kN, kO, kP, kQ] cl st en nc).cells) rfl (by conv => lhs; whnf) ?_ ⟨rfl, rfl⟩)
 exact (List.sublist_append_right le l).trans (List.sublist_append_right [_, _, _, _] _)
end Go.Proofs.YtbalcgjphkdecaaGreatDoor.To
namespace Go.Lg
open Go.RowKit
section
variable {P : Program} {ρ : Operand → Value} {d : Option Tmp} {ty : TypeId} {pos : String} {af : Array Edge} {gd : Option (Nat × Bool)} {W : World} {l l' : List Ent} {Ψ : Value → List Ent → Prop}
theorem e_callX {g : FuncId} {fo : Operand} {first cap : Array Value} {args : Array Operand} {ats : Array TypeId} {vs : List Value} {v : Value}
  (hfo : ρ fo = .func (.func g) first cap) (ha : first.toList ++ (args.toList.map ρ ++ cap.toList) = vs) (hr : ∀ w, SH W l w → ∃ w', (callFunc g vs.toArray).run P w = .ok (.value v) w' ∧ SH W l' w') (h : Ψ v l') :
  Eff P W l ⟨d, .call { callee := .value fo, args := args, argTypes := ats }, ty, pos, af, gd⟩ ρ Ψ := by
 intro w hw
 subst ha
 obtain ⟨w', h1, h2⟩ := hr w hw
 have e2 : first ++ args.map ρ ++ cap = (first.toList ++ (args.toList.map ρ ++ cap.toList)).toArray := by
  apply Array.ext'
  simp
 have e1 : (execOp ρ ⟨d, .call { callee := .value fo, args := args, argTypes := ats }, ty, pos, af, gd⟩).run P w = .ok (.value v) w' := by
  simp only [execOp, resolve, hfo, Deferred.ofValue, Sem.run_bind, Sem.run_pure, Result.andThen_ok, invoke]
  rw [e2]
  exact h1
 unfold OpW
 rw [e1]
 exact ⟨l', h2, h⟩
theorem SH.cell {w : World} {T : TypeId} {b o : Nat} {cs : List Value} (hw : SH W l w) (i : Nat) (he : l[i]? = some (b, isC T cs)) (ho : o < cs.length) (v : Value) :
  (∃ x, nth cs o = some x ∧ w.cell? ⟨b, o, none⟩ = some x) ∧ w.frozen? ⟨b, o, none⟩ = false ∧ SH W (l.set i (b, isC T (spl cs o [v]))) (w.setCell ⟨b, o, none⟩ v) := by
 obtain ⟨_, ob, hb, fz, rfl, hf⟩ := hw.at_ he
 refine ⟨⟨cs[o], by rw [nth_eq, List.getElem?_eq_getElem ho], by rw [cell_at hb]; simp [ho]⟩, frozen_at hb (by simpa using hf) (by simpa using ho), ?_⟩
 rw [setCell_setB hb]
 refine hw.set_ he (setB_ok w hb _) ⟨fz, ?_, by rw [spl_length]; exact hf⟩
 rw [spl_one]
 simp
theorem SH.cellv {w : World} {T : TypeId} {b o : Nat} {cs : List Value} {x : Value} (hw : SH W l w) (i : Nat) (he : l[i]? = some (b, isC T cs)) (hx : nth cs o = some x) (v : Value) :
  w.cell? ⟨b, o, none⟩ = some x ∧ w.frozen? ⟨b, o, none⟩ = false ∧ SH W (l.set i (b, isC T (spl cs o [v]))) (w.setCell ⟨b, o, none⟩ v) := by
 have ho : o < cs.length := by rw [nth_eq] at hx; exact (List.getElem?_eq_some_iff.1 hx).1
 obtain ⟨⟨y, h1, h2⟩, h3, h4⟩ := hw.cell i he ho v
 rw [hx] at h1
 exact ⟨by rw [h2, ← h1], h3, h4⟩
theorem r_unsafe {s t t' T : TypeId} {x : Operand} {b o : Nat} {cs : List Value} {v : Value} (hs : P.underlying s = some (.pointer t')) (hd : P.underlying t = some .unsafePointer) (hsz : (P.info? t').map (fun i => decide (i.size = 0)) = some false)
  (hx : ρ x = .pointer (some ⟨b, o, none⟩)) (hv : nth cs o = some v) : YldIf P (At b (isC T cs)) ⟨d, .convert s t x, ty, pos, af, gd⟩ ρ (.pointer (some ⟨b, o, none⟩)) := by
 rintro w ⟨_, hb, fz, rfl, _⟩
 rw [nth_eq] at hv
 have hr := run_convert_to_unsafe (P := P) hs hd hsz (a := ⟨b, o, none⟩) (w := w) (v := v) (by rw [cell_at hb]; simpa using hv)
 simp only [execOp, hx, Sem.run_bind, hr, Result.andThen_ok, Sem.run_pure]
end
def TrD (P : Program) (g : FuncId) (args : Array Value) (W : World) (l : List Ent) (Φ : Value → List Ent → Prop) : Prop :=
 ∀ u w, SH W l w → CallsD P g args u w fun e u' w' => u' = u ∧ ∃ v l', e = .returned v ∧ SH W l' w' ∧ Φ v l'
theorem TrD.of_code {P : Program} {g : FuncId} {fn : Func} {c : Code} {args : List Value} {W : World} {l : List Ent} {Φ : Value → List Ent → Prop} {n : Nat}
  (hf : P.funcs[g]? = some fn) (hb : fn.body = some c) (hn : fn.ntmps = n) (ha : args.length ≤ n) (h : JC P n W c (Fin P fn W Φ) (frL args) l) : TrD P g args.toArray W l Φ := by
 intro u w hs
 refine callsD_of_wp hf hb ?_
 rw [hn, frL_act _ _ (by simpa using ha)]
 exact h w hs
def actd (n : Nat) (f : Fr) (ds : List Deferred) : Act := ⟨(act n f).tmps, ds⟩
theorem actd_eval (n : Nat) (f : Fr) (ds : List Deferred) : (actd n f ds).eval = ev n f := by
 funext x
 have := congrFun (act_eval n f) x
 cases x <;> exact this
theorem actd_put (n : Nat) (f : Fr) (ds : List Deferred) (d : Option Tmp) (v : Value) : (actd n f ds).put d v = actd n (put f d v) ds := by
 have h := act_put n f d v
 cases d with
 | none => rfl
 | some d =>
  unfold actd
  rw [← h]
  rfl
section
variable (P : Program) (n : Nat) (W : World)
def JCd (c : Code) (K : Kont) (f : Fr) (ds : List Deferred) (l : List Ent) : Prop := ∀ w, SH W l w → c.wp P (K.post P) (actd n f ds) w
def RNd (K : Kont) (f : Fr) (ds : List Deferred) (l : List Ent) : Prop := ∀ w, SH W l w → K.post P .normal (actd n f ds) w
def JLd (ops : Array Oper) (K : Kont) (rest : List Oper) (f : Fr) (ds : List Deferred) (l : List Ent) : Prop := ∀ w, SH W l w → wpList P ops (K.post P) rest (actd n f ds) w
end
section
variable {P : Program} {n : Nat} {W : World} {K : Kont} {f : Fr} {ds : List Deferred} {l l' : List Ent} {ops : Array Oper} {rest : List Oper}
theorem JCd.seq {x y : Code} (h : JCd P n W x (.seq y K) f ds l) : JCd P n W (x.seq y) K f ds l := fun w hw => wp_seq (h w hw)
theorem JCd.cond_t {c : Operand} {x y : Code} (hc : ev n f c = .bool true) (h : JCd P n W x K f ds l) : JCd P n W (.cond c x y) K f ds l := fun w hw => wp_cond_true (by rw [actd_eval]; exact hc) (h w hw)
theorem JCd.region {id : Nat} {ol : List Oper} (h : JLd P n W ol.toArray K ol f ds l) : JCd P n W (.region id ol.toArray false) K f ds l := fun w hw => wp_region_lit (h w hw)
theorem RNd.seq {y : Code} (h : JCd P n W y K f ds l) : RNd P n W (.seq y K) f ds l := h
theorem JLd.nil (h : RNd P n W K f ds l) : JLd P n W ops K [] f ds l := h
theorem JLd.cast (hp : l = l') (h : JLd P n W ops K rest f ds l') : JLd P n W ops K rest f ds l := hp ▸ h
variable {d : Option Tmp} {op : Op} {ty : TypeId} {pos : String} {af : Array Edge}
theorem JLd.step (h : Eff P W l ⟨d, op, ty, pos, af, none⟩ (ev n f) fun v l' => JLd P n W ops K rest (put f d v) ds l') : JLd P n W ops K (⟨d, op, ty, pos, af, none⟩ :: rest) f ds l := by
 intro w hs
 refine wpList_step fun K' hK' => ?_
 have hw : Region.wanted (⟨d, op, ty, pos, af, none⟩ : Oper) (yielded ops (actd n f ds).tmps) = true := rfl
 rw [if_pos hw]
 refine OpW.wp ?_
 rw [actd_eval]
 refine (h w hs).mono fun v w' ⟨l', hs', hj⟩ => ?_
 rw [actd_put]
 exact hK' _ _ (hj w' hs')
theorem JLd.pure {v : Value} (hy : Yld P ⟨d, op, ty, pos, af, none⟩ (ev n f) v) (h : JLd P n W ops K rest (put f d v) ds l) : JLd P n W ops K (⟨d, op, ty, pos, af, none⟩ :: rest) f ds l := .step (.pure hy h)
theorem JLd.defer {g : FuncId} {fo : Operand} {first cap : Array Value} {args : Array Operand} {ats : Array TypeId} {vs : List Value} (hfo : ev n f fo = .func (.func g) first cap) (ha : first.toList ++ args.toList.map (ev n f) = vs)
  (h : JLd P n W ops K rest (put f d undef) (⟨.fn (.func g) cap, vs.toArray⟩ :: ds) l) : JLd P n W ops K (⟨d, .defer { callee := .value fo, args := args, argTypes := ats }, ty, pos, af, none⟩ :: rest) f ds l := by
 intro w hs
 have ha' : vs.toArray = first ++ args.map (ev n f) := by
  subst ha
  apply Array.ext'
  simp
 rw [ha'] at h
 refine wpList_step fun K' hK' => ?_
 have hw : Region.wanted (⟨d, .defer { callee := .value fo, args := args, argTypes := ats }, ty, pos, af, none⟩ : Oper) (yielded ops (actd n f ds).tmps) = true := rfl
 rw [if_pos hw]
 have e1 : (execOp (actd n f ds).eval ⟨d, .defer { callee := .value fo, args := args, argTypes := ats }, ty, pos, af, none⟩).run P w = .ok (.defer ⟨.fn (.func g) cap, first ++ args.map (ev n f)⟩) w := by
  rw [actd_eval]
  simp only [execOp, resolve, hfo, Deferred.ofValue, Sem.run_bind, Sem.run_pure, Result.andThen_ok]
 unfold Oper.wp
 rw [e1]
 have e2 : ({ actd n f ds with defers := (⟨.fn (.func g) cap, first ++ args.map (ev n f)⟩ : Deferred) :: (actd n f ds).defers } : Act).put d undef = actd n (put f d undef) (⟨.fn (.func g) cap, first ++ args.map (ev n f)⟩ :: ds) :=
  actd_put n f (⟨.fn (.func g) cap, first ++ args.map (ev n f)⟩ :: ds) d undef
 show K' (({ actd n f ds with defers := (⟨.fn (.func g) cap, first ++ args.map (ev n f)⟩ : Deferred) :: (actd n f ds).defers } : Act).put d undef) w
 rw [e2]
 exact hK' _ _ (h w hs)
end
def FinD (P : Program) (fn : Func) (W : World) (Φ : Value → List Ent → Prop) : Kont := .done (bodyPostD P fn fun e w' => ∃ v l', e = .returned v ∧ SH W l' w' ∧ Φ v l')
theorem Tr.of_defers {P : Program} {g : FuncId} {fn : Func} {c : Code} {args : List Value} {W : World} {l : List Ent} {Φ : Value → List Ent → Prop} {n : Nat}
  (hf : P.funcs[g]? = some fn) (hb : fn.body = some c) (hn : fn.ntmps = n) (ha : args.length ≤ n) (h : JCd P n W c (FinD P fn W Φ) (frL args) [] l) : Tr P g args.toArray W l Φ := by
 intro w hs
 refine calls_of_wp_defers hf hb ?_
 rw [hn, frL_act _ _ (by simpa using ha)]
 exact h w hs
def Door (P : Program) (fn : Func) (W : World) (Φ : Value → List Ent → Prop) (tmps : Array Value) (ds : List Deferred) (l : List Ent) : Prop :=
 ∀ w, SH W l w → Leaves P fn tmps (fun e w' => ∃ v l', e = .returned v ∧ SH W l' w' ∧ Φ v l') ds .returning w
theorem RNd.door {P : Program} {fn : Func} {W : World} {Φ : Value → List Ent → Prop} {n : Nat} {f : Fr} {ds : List Deferred} {l : List Ent} (h : Door P fn W Φ (act n f).tmps ds l) : RNd P n W (FinD P fn W Φ) f ds l := fun w hs => h w hs
theorem Door.nil {P : Program} {fn : Func} {W : World} {Φ : Value → List Ent → Prop} {tmps : Array Value} {l : List Ent} (hr : fn.results = #[]) (h : Φ (.tuple #[]) l) : Door P fn W Φ tmps [] l :=
 fun w hs => ⟨_, results_none hr .., _, _, rfl, hs, h⟩
theorem Door.cons {P : Program} {fn : Func} {W : World} {Φ : Value → List Ent → Prop} {tmps : Array Value} {ds : List Deferred} {l : List Ent} {g : FuncId} {vs : List Value} {Φ' : Value → List Ent → Prop} [hf : FnT P g]
  (hc : TrD P g vs.toArray W l Φ') (h : ∀ v l', Φ' v l' → Door P fn W Φ tmps ds l') : Door P fn W Φ tmps (⟨.fn (.func g) #[], vs.toArray⟩ :: ds) l := by
 intro w hs
 refine leaves_cons (f := g) (args := vs.toArray) (by simp) ?_ ?_
 ·obtain ⟨fn', h1, h2, h3⟩ := hf.h
  have := run_enter h1 h2 h3 vs.toArray w
  simpa [invoke] using this
 ·refine (hc .returning w hs).mono ?_
  rintro e u' w' ⟨rfl, v, l', rfl, hs', hp⟩
  exact h v l' hp w' hs'
end Go.Lg
namespace Go.Proofs.YtbalcgjphkdecaaGreatDoor.Sp
open Go.RowKit Go.Lg
set_option maxRecDepth 100000
attribute [local irreducible] JC JL JD RN RT Eff Yld YldIf Tr
def ptr (b : Nat) : Value := .pointer (some ⟨b, 0, none⟩)
def r32 (x : BitVec 32) (n : Nat) : BitVec 32 := (x <<< n) ||| (x >>> (32 - n))
theorem sub32 {n : Nat} (hn : n ≤ 32) : IntKind.u64.wrap ((32 : Int) - (n : Int)) = ((32 - n : Nat) : Int) := by
 rw [show (32 : Int) - (n : Int) = ((32 - n : Nat) : Int) from by omega]
 exact wrap_lt rfl (Nat.lt_of_le_of_lt (Nat.sub_le _ _) (by decide))
theorem Rot32_ok (x : BitVec 32) (k : Int) (n : Nat) (hb : bits .and .u64 (IntKind.u64.wrap k) 31 = (n : Int)) (hn : n ≤ 32) (W : World) (l : List Ent) : Tr Pg 143 #[w32 x, .int .i64 k] W l fun v l' => v = w32 (r32 x n) ∧ l' = l := by
 refine Tr.of_code (args := [_, _]) Tryz.func143 rfl Tryz.ntmps143 lE_ ?_
 have h2 := sub32 hn
 repeat (first | refine JLp (y_conv (c := IntKind.u64.wrap k) rfl rfl) ?_ | refine JLp (y_andC rfl rfl hb) ?_ | refine JLp (y_shl32 rfl rfl hn) ?_ | refine JLp (y_sub rfl rfl h2) ?_ | refine JLp (y_shr32 rfl rfl (Nat.sub_le _ _)) ?_ | refine JLp (y_or32 rfl rfl) ?_ | refine AS0 ?_)
 exact JC.ret (RT.one rfl rfl rfl ⟨rfl, rfl⟩)
end Go.Proofs.YtbalcgjphkdecaaGreatDoor.Sp
namespace Go.Proofs.YtbalcgjphkdecaaGreatDoor.Sp
open Go.RowKit Go.Lg
set_option maxRecDepth 100000
attribute [local irreducible] JC JL JD RN RT Eff Yld YldIf Tr
def KC (ks : List UInt8) (d st : Int) (ls : List (BitVec 32)) (m : Int) : List Value := ks.map bv ++ (.int .u32 d :: .int .i32 st :: .int .u32 0 :: (ls.map w32 ++ [.int .u32 m]))
section
variable {ks : List UInt8} {d st m : Int} {ls : List (BitVec 32)}
theorem KC_len (hk : ks.length = 16) (hl : ls.length = 27) : (KC ks d st ls m).length = 47 := by simp [KC, hk, hl]
theorem KC_done (hk : ks.length = 16) : nth (KC ks d st ls m) 16 = some (.int .u32 d) := by
 rw [nth_eq]; unfold KC; rw [List.getElem?_append_right (by simp [hk])]; simp [hk]
theorem KC_st (hk : ks.length = 16) : nth (KC ks d st ls m) 17 = some (.int .i32 st) := by
 rw [nth_eq]; unfold KC; rw [List.getElem?_append_right (by simp [hk])]; simp [hk]
theorem KC_made (hk : ks.length = 16) (hl : ls.length = 27) : nth (KC ks d st ls m) 46 = some (.int .u32 m) := by
 rw [nth_eq]; unfold KC
 rw [List.getElem?_append_right (by simp [hk])]
 simp only [List.length_map, hk]
 show (ls.map w32 ++ [.int .u32 m])[27]? = _
 rw [List.getElem?_append_right (by simp [hl])]; simp [hl]
theorem KC_set_done (hk : ks.length = 16) (d' : Int) : spl (KC ks d st ls m) 16 [.int .u32 d'] = KC ks d' st ls m := by
 rw [spl_one]; unfold KC; rw [List.set_append_right _ _ (by simp [hk])]; simp [hk]
theorem KC_set_st (hk : ks.length = 16) (s' : Int) : spl (KC ks d st ls m) 17 [.int .i32 s'] = KC ks d s' ls m := by
 rw [spl_one]; unfold KC; rw [List.set_append_right _ _ (by simp [hk])]; simp [hk]
theorem KC_set_made (hk : ks.length = 16) (hl : ls.length = 27) (m' : Int) : spl (KC ks d st ls m) 46 [.int .u32 m'] = KC ks d st ls m' := by
 rw [spl_one]; unfold KC; rw [List.set_append_right _ _ (by simp [hk])]
 simp only [List.length_map, hk]
 show List.map bv ks ++ (_ :: _ :: _ :: (ls.map w32 ++ [Value.int .u32 m]).set 27 (Value.int .u32 m')) = _
 rw [List.set_append_right _ _ (by simp [hl])]; simp [hl]
theorem KC_set_l (hk : ks.length = 16) (hl : ls.length = 27) {i : Nat} (hi : i < 27) (x : BitVec 32) : spl (KC ks d st ls m) (19 + i * 1) [w32 x] = KC ks d st (ls.set i x) m := by
 rw [spl_one, Nat.mul_one]; unfold KC; rw [List.set_append_right _ _ (by simp [hk]; omega)]
 simp only [List.length_map, hk]
 rw [show 19 + i - 16 = i + 3 from by omega]
 simp only [List.set_cons_succ]
 rw [List.set_append_left _ _ (by simp [hl, hi]), List.map_set]
theorem KC_key (hk : ks.length = 16) : seg (KC ks d st ls m) 0 16 = ks.map bv := by
 unfold seg KC; rw [List.drop_zero, List.take_append_of_le_length (by simp [hk]), List.take_of_length_le (by simp [hk])]
theorem KC_words (hk : ks.length = 16) (hl : ls.length = 27) (j : Nat) (u : Value) (h : (ls.map w32)[j]? = some u) : (KC ks d st ls m)[19 + j]? = some u := by
 have hj : j < 27 := by
  have := (List.getElem?_eq_some_iff.1 h).1
  simpa [hl] using this
 unfold KC
 rw [List.getElem?_append_right (by simp [hk]; omega)]
 simp only [List.length_map, hk]
 rw [show 19 + j - 16 = j + 3 from by omega]
 simp only [List.getElem?_cons_succ]
 rw [List.getElem?_append_left (by simpa [hl] using hj)]
 exact h
end
section
variable {W : World} {l : List Ent} {b o T : Nat} {cs : List Value}
theorem load_X {x : Int} (i : Nat) (he : l[i]? = some (b, isC T cs)) (hx : nth cs o = some (.int .u32 x)) : ∀ w, SH W l w → ∃ w', (callFunc 255 #[.pointer (some ⟨b, o, none⟩)]).run Pg w = .ok (.value (.int .u32 x)) w' ∧ SH W l w' :=
 fun w hw => ⟨w, run_call_load (P := Pg) Tryz.func255 (by kernel_rfl) (by kernel_rfl) (by kernel_rfl) .u32 (by kernel_rfl) (hw.cellv i he hx undef).1, hw⟩
theorem store_X {x y : Int} (i : Nat) (he : l[i]? = some (b, isC T cs)) (hx : nth cs o = some (.int .u32 x)) : ∀ w, SH W l w → ∃ w', (callFunc 258 #[.pointer (some ⟨b, o, none⟩), .int .u32 y]).run Pg w = .ok (.value (.tuple #[])) w' ∧ SH W (l.set i (b, isC T (spl cs o [.int .u32 y]))) w' :=
 fun w hw => ⟨_, run_call_store (P := Pg) Tryz.func258 (by kernel_rfl) (by kernel_rfl) (by kernel_rfl) (by kernel_rfl) (hw.cellv i he hx undef).1 (hw.cellv i he hx undef).2.1, (hw.cellv i he hx _).2.2⟩
theorem cas_X {x y : Int} (i : Nat) (he : l[i]? = some (b, isC T cs)) (hx : nth cs o = some (.int .i32 x)) : ∀ w, SH W l w → ∃ w', (callFunc 292 #[.pointer (some ⟨b, o, none⟩), .int .i32 x, .int .i32 y]).run Pg w = .ok (.value (.bool true)) w' ∧ SH W (l.set i (b, isC T (spl cs o [.int .i32 y]))) w' :=
 fun w hw => ⟨_, run_call_cas_hit (P := Pg) Tryz.func292 (by kernel_rfl) (by kernel_rfl) (by kernel_rfl) .i32 (by kernel_rfl) (hw.cellv i he hx undef).1 (hw.cellv i he hx undef).2.1, (hw.cellv i he hx _).2.2⟩
theorem add_X {x y s : Int} (hs : ∀ w, (Op.intArith .add .i32 x y).run Pg w = .ok (.int .i32 s) w) (i : Nat) (he : l[i]? = some (b, isC T cs)) (hx : nth cs o = some (.int .i32 x)) : ∀ w, SH W l w → ∃ w', (callFunc 297 #[.pointer (some ⟨b, o, none⟩), .int .i32 y]).run Pg w = .ok (.value (.int .i32 s)) w' ∧ SH W (l.set i (b, isC T (spl cs o [.int .i32 s]))) w' :=
 fun w hw => ⟨_, run_call_add (P := Pg) Tryz.func297 (by kernel_rfl) (by kernel_rfl) (by kernel_rfl) .i32 (by kernel_rfl) (hw.cellv i he hx undef).1 (hw.cellv i he hx undef).2.1 (hs w), (hw.cellv i he hx _).2.2⟩
theorem disable_X : ∀ w, SH W l w → ∃ w', (callFunc 291 #[]).run Pg w = .ok (.value (.tuple #[])) w' ∧ SH W l w' :=
 fun w hw => ⟨w, run_call_mark0 (P := Pg) Tryz.func291 (by kernel_rfl) (by kernel_rfl) (by kernel_rfl) .disable (by kernel_rfl) w, hw⟩
theorem enable_X : ∀ w, SH W l w → ∃ w', (callFunc 293 #[]).run Pg w = .ok (.value (.tuple #[])) w' ∧ SH W l w' :=
 fun w hw => ⟨w, run_call_mark0 (P := Pg) Tryz.func293 (by kernel_rfl) (by kernel_rfl) (by kernel_rfl) .enable (by kernel_rfl) w, hw⟩
theorem acquire_X (a : Addr) : ∀ w, SH W l w → ∃ w', (callFunc 294 #[.pointer (some a)]).run Pg w = .ok (.value (.tuple #[])) w' ∧ SH W l w' :=
 fun w hw => ⟨w, run_call_marked (P := Pg) Tryz.func294 (by kernel_rfl) (by kernel_rfl) (by kernel_rfl) .acquire (by kernel_rfl) a w, hw⟩
theorem releaseMerge_X (a : Addr) : ∀ w, SH W l w → ∃ w', (callFunc 296 #[.pointer (some a)]).run Pg w = .ok (.value (.tuple #[])) w' ∧ SH W l w' :=
 fun w hw => ⟨w, run_call_marked (P := Pg) Tryz.func296 (by kernel_rfl) (by kernel_rfl) (by kernel_rfl) .releaseMerge (by kernel_rfl) a w, hw⟩
theorem Load_ok {x : Int} {q : Bool} (i : Nat) (he : l[i]? = some (b, isC T cs)) (hx : nth cs o = some (.int .u32 x)) (hq : decide (x = 0) = !q) : Tr Pg 233 #[.pointer (some ⟨b, o, none⟩)] W l fun v l' => v = .bool q ∧ l' = l := by
 refine Tr.of_code (args := [_]) Tryz.func233 rfl Tryz.ntmps233 lE_ ?_
 refine AU0 ?_
 refine JLs (e_callX (vs := [.pointer (some ⟨b, o, none⟩)]) rfl rfl (load_X i he hx) ?_)
 repeat (first | refine JLp (y_neq rfl rfl (r := q) hq) ?_ | refine AS0 ?_)
 exact JC.ret (RT.one rfl rfl rfl ⟨rfl, rfl⟩)
theorem b32_ok : Tr Pg 259 #[.bool true] W l fun v l' => v = .int .u32 1 ∧ l' = l := by
 refine Tr.of_code (args := [_]) Tryz.func259 rfl Tryz.ntmps259 lE_ ?_
 refine AU0 ?_
 exact JC.ret (RT.one rfl rfl rfl ⟨rfl, rfl⟩)
theorem Store_ok {x : Int} (i : Nat) (he : l[i]? = some (b, isC T cs)) (hx : nth cs o = some (.int .u32 x)) : Tr Pg 235 #[.pointer (some ⟨b, o, none⟩), .bool true] W l fun v l' => v = .tuple #[] ∧ l' = l.set i (b, isC T (spl cs o [.int .u32 1])) := by
 refine Tr.of_code (args := [_, _]) Tryz.func235 rfl Tryz.ntmps235 lE_ ?_
 repeat (first | refine JC.seq ?_ | refine JL.nil ?_ | refine RN.seq ?_ | refine RN.blk ?_ | refine JC.region ?_ | refine JC.skip ?_ | refine JC.block ?_ | refine JC.exit ?_ | refine JC.cond_t rfl ?_ | refine JC.cond_f rfl ?_)
 refine JC.drawn 6 rfl mixed ?_
 refine JDp 0 rfl y_mv ?_
 refine JDp 1 rfl (y_nilCheck rfl) ?_
 refine JDp 2 rfl (y_fieldAddr rfl) ?_
 refine JDp 3 rfl y_mv ?_
 refine JDe 4 rfl (e_call rfl rfl b32_ok ?_)
 rintro v l' ⟨rfl, rfl⟩
 refine ⟨tok_, ?_⟩
 refine JDe 5 rfl (e_callX (vs := [.pointer (some ⟨b, o, none⟩), .int .u32 1]) rfl rfl (store_X i he hx) ⟨tok_, ?_⟩)
 refine JDd ?_
 repeat (first | refine JC.seq ?_ | refine JL.nil ?_ | refine RN.seq ?_ | refine RN.blk ?_ | refine JC.region ?_ | refine JC.skip ?_ | refine JC.block ?_ | refine JC.exit ?_ | refine JC.cond_t rfl ?_ | refine JC.cond_f rfl ?_)
 exact RN.none rfl ⟨rfl, rfl⟩
theorem Store_okD {x : Int} (i : Nat) (he : l[i]? = some (b, isC T cs)) (hx : nth cs o = some (.int .u32 x)) : TrD Pg 235 #[.pointer (some ⟨b, o, none⟩), .bool true] W l fun v l' => v = .tuple #[] ∧ l' = l.set i (b, isC T (spl cs o [.int .u32 1])) := by
 refine TrD.of_code (args := [_, _]) Tryz.func235 rfl Tryz.ntmps235 lE_ ?_
 repeat (first | refine JC.seq ?_ | refine JL.nil ?_ | refine RN.seq ?_ | refine RN.blk ?_ | refine JC.region ?_ | refine JC.skip ?_ | refine JC.block ?_ | refine JC.exit ?_ | refine JC.cond_t rfl ?_ | refine JC.cond_f rfl ?_)
 refine JC.drawn 6 rfl mixed ?_
 refine JDp 0 rfl y_mv ?_
 refine JDp 1 rfl (y_nilCheck rfl) ?_
 refine JDp 2 rfl (y_fieldAddr rfl) ?_
 refine JDp 3 rfl y_mv ?_
 refine JDe 4 rfl (e_call rfl rfl b32_ok ?_)
 rintro v l' ⟨rfl, rfl⟩
 refine ⟨tok_, ?_⟩
 refine JDe 5 rfl (e_callX (vs := [.pointer (some ⟨b, o, none⟩), .int .u32 1]) rfl rfl (store_X i he hx) ⟨tok_, ?_⟩)
 refine JDd ?_
 repeat (first | refine JC.seq ?_ | refine JL.nil ?_ | refine RN.seq ?_ | refine RN.blk ?_ | refine JC.region ?_ | refine JC.skip ?_ | refine JC.block ?_ | refine JC.exit ?_ | refine JC.cond_t rfl ?_ | refine JC.cond_f rfl ?_)
 exact RN.none rfl ⟨rfl, rfl⟩
theorem lock_in (i : Nat) (he : l[i]? = some (b, isC T cs)) (hx : nth cs o = some (.int .i32 0)) : Tr Pg 280 #[.pointer (some ⟨b, o, none⟩)] W l fun v l' => v = .tuple #[] ∧ l' = l.set i (b, isC T (spl cs o [.int .i32 1])) := by
 have hi : i < l.length := (List.getElem?_eq_some_iff.1 he).1
 have ho : o < cs.length := by rw [nth_eq] at hx; exact (List.getElem?_eq_some_iff.1 hx).1
 refine Tr.of_code (args := [_]) Tryz.func280 rfl Tryz.ntmps280 lE_ ?_
 refine AU0 ?_
 refine JLs (e_callX (vs := []) rfl rfl disable_X ?_)
 refine AU0 ?_
 refine JLs (e_callX (vs := [.pointer (some ⟨b, o, none⟩), .int .i32 0, .int .i32 1]) rfl rfl (cas_X i he hx) ?_)
 refine AU0 ?_
 refine JLs (e_callX (vs := []) rfl rfl enable_X ?_)
 refine AU0 ?_
 refine JL.read i (List.getElem?_set_self hi) rfl (r_unsafe (v := .int .i32 1) Tryz.underlying413 Tryz.underlying417 (by kernel_rfl) rfl (by rw [spl_one, nth_eq, List.getElem?_set_self ho])) ?_
 refine JLs (e_callX (vs := [.pointer (some ⟨b, o, none⟩)]) rfl rfl (acquire_X _) ?_)
 refine AU0 ?_
 exact JC.ret (RT.none rfl rfl ⟨rfl, rfl⟩)
theorem unlock_in (i : Nat) (he : l[i]? = some (b, isC T cs)) (hx : nth cs o = some (.int .i32 1)) : Tr Pg 281 #[.pointer (some ⟨b, o, none⟩)] W l fun v l' => v = .tuple #[] ∧ l' = l.set i (b, isC T (spl cs o [.int .i32 0])) := by
 refine Tr.of_code (args := [_]) Tryz.func281 rfl Tryz.ntmps281 lE_ ?_
 refine AU0 ?_
 refine JL.read i he rfl (r_load1 rfl hx) ?_
 refine AU0 ?_
 refine JL.read i he rfl (r_unsafe (v := .int .i32 1) Tryz.underlying413 Tryz.underlying417 (by kernel_rfl) rfl hx) ?_
 refine JLs (e_callX (vs := [.pointer (some ⟨b, o, none⟩)]) rfl rfl (releaseMerge_X _) ?_)
 refine AU0 ?_
 refine JLs (e_callX (vs := []) rfl rfl disable_X ?_)
 refine AU0 ?_
 refine JLs (e_callX (vs := [.pointer (some ⟨b, o, none⟩), .int .i32 (-1)]) rfl rfl (add_X (x := 1) (s := 0) (fun w => by simp [Op.intArith]; rfl) i he hx) ?_)
 refine AU0 ?_
 refine JLs (e_callX (vs := []) rfl rfl enable_X ?_)
 refine AU0 ?_
 exact RN.none rfl ⟨rfl, rfl⟩
theorem Lock_ok (i : Nat) (he : l[i]? = some (b, isC T cs)) (hx : nth cs o = some (.int .i32 0)) : Tr Pg 256 #[.pointer (some ⟨b, o, none⟩)] W l fun v l' => v = .tuple #[] ∧ l' = l.set i (b, isC T (spl cs o [.int .i32 1])) := by
 refine Tr.of_code (args := [_]) Tryz.func256 rfl Tryz.ntmps256 lE_ ?_
 refine AU0 ?_
 refine JLs (e_call rfl rfl (lock_in i he hx) ?_)
 rintro v l' ⟨rfl, rfl⟩
 refine AU0 ?_
 exact RN.none rfl ⟨rfl, rfl⟩
theorem Unlock_okD (i : Nat) (he : l[i]? = some (b, isC T cs)) (hx : nth cs o = some (.int .i32 1)) : TrD Pg 257 #[.pointer (some ⟨b, o, none⟩)] W l fun v l' => v = .tuple #[] ∧ l' = l.set i (b, isC T (spl cs o [.int .i32 0])) := by
 refine TrD.of_code (args := [_]) Tryz.func257 rfl Tryz.ntmps257 lE_ ?_
 refine AU0 ?_
 refine JLs (e_call rfl rfl (unlock_in i he hx) ?_)
 rintro v l' ⟨rfl, rfl⟩
 refine AU0 ?_
 exact RN.none rfl ⟨rfl, rfl⟩
end
end Go.Proofs.YtbalcgjphkdecaaGreatDoor.Sp
namespace Go.Proofs.YtbalcgjphkdecaaGreatDoor.Sp
open Go.RowKit Go.Lg
set_option maxRecDepth 100000
attribute [local irreducible] JC JL JD RN RT Eff Yld YldIf Tr
def wAt (ks : List UInt8) : Nat → List (BitVec 32)
 | 0 => [0, 0, 0, 0]
 | i + 1 => (wAt ks i).set (i / 4) ((wAt ks i).getD (i / 4) 0 ||| (BitVec.ofNat 32 (ks.getD i 0).toNat <<< (8 * (i % 4))))
theorem wAt_len (ks : List UInt8) : ∀ i, (wAt ks i).length = 4
 | 0 => rfl
 | i + 1 => by rw [wAt, List.length_set]; exact wAt_len ks i
def sch (ks : List UInt8) : Nat → BitVec 32 × BitVec 32 × BitVec 32 × BitVec 32
 | 0 => ((wAt ks 16).getD 0 0, (wAt ks 16).getD 1 0, (wAt ks 16).getD 2 0, (wAt ks 16).getD 3 0)
 | i + 1 => (r32 (sch ks i).1 3 ^^^ (((sch ks i).1 + r32 (sch ks i).2.1 24) ^^^ BitVec.ofNat 32 i), (sch ks i).2.2.1, (sch ks i).2.2.2, ((sch ks i).1 + r32 (sch ks i).2.1 24) ^^^ BitVec.ofNat 32 i)
def wpre (ks : List UInt8) (i : Nat) : List (BitVec 32) := (List.range i).map (fun j => (sch ks j).1) ++ List.replicate (27 - i) 0
def words (ks : List UInt8) : List (BitVec 32) := (List.range 27).map fun j => (sch ks j).1
theorem wpre_len (ks : List UInt8) {i : Nat} (h : i ≤ 27) : (wpre ks i).length = 27 := by simp [wpre]; omega
theorem wpre_step (ks : List UInt8) {i : Nat} (h : i < 27) : (wpre ks i).set i (sch ks i).1 = wpre ks (i + 1) := by
 have e1 : wpre ks i = (List.range i).map (fun j => (sch ks j).1) ++ (0 :: List.replicate (27 - (i + 1)) 0) := by
  unfold wpre
  rw [show 27 - i = (27 - (i + 1)) + 1 from by omega, List.replicate_succ]
 have e2 : wpre ks (i + 1) = (List.range i).map (fun j => (sch ks j).1) ++ ((sch ks i).1 :: List.replicate (27 - (i + 1)) 0) := by
  unfold wpre
  rw [List.range_succ, List.map_append, List.append_assoc]
  rfl
 rw [e1, e2, List.set_append_right _ _ (by simp)]
 simp
theorem wpre_end (ks : List UInt8) : wpre ks 27 = words ks := by simp [wpre, words]
theorem w4_get (ks : List UInt8) (i : Nat) {j : Nat} (hj : j < 4) : nth ((wAt ks i).map w32) (0 + j * 1) = some (w32 ((wAt ks i).getD j 0)) := by
 have h : j < (wAt ks i).length := by rw [wAt_len]; exact hj
 rw [nth_eq, Nat.mul_one, Nat.zero_add, List.getElem?_map, List.getElem?_eq_getElem h]
 simp [List.getD, h]
theorem w4_set (ks : List UInt8) (i : Nat) : spl ((wAt ks i).map w32) (0 + (i / 4) * 1) [w32 ((wAt ks i).getD (i / 4) 0 ||| (BitVec.ofNat 32 (ks.getD i 0).toNat <<< (8 * (i % 4))))] = (wAt ks (i + 1)).map w32 := by
 rw [spl_one, Nat.mul_one, Nat.zero_add, wAt, List.map_set]
def LV (W : World) (pool : List Ent) (g o c : Nat) (a b d : Value) : Prop :=
 Src W pool (some ⟨g, o, none⟩) [a, b, d] ∧ 3 ≤ c ∧ (c = 3 ∨ ∃ tot xs, pool = [(g, isR 150 tot (xs ++ [a, b, d]))] ∧ xs.length = o ∧ o + c ≤ tot)
set_option maxRecDepth 100000 in
set_option maxHeartbeats 4000000 in
theorem make_ok {ks : List UInt8} (hk : ks.length = 16) {d st : Int} {kb : Nat} {W : World} {r : List Ent} :
  Tr Pg 200 #[ptr kb] W ((kb, isC 161 (KC ks d st (wpre ks 0) 0)) :: r) fun v l' => l' = (kb, isC 161 (KC ks d st (words ks) 1)) :: r := by
 refine Tr.of_code (args := [_]) Tryz.func200 rfl Tryz.ntmps200 lE_ ?_
 refine AU0 ?_
 refine JLs (e_alloc fun b2 => ?_)
 refine JL.cast (l' := (b2, isC 364 ((wAt ks 0).map w32)) :: (kb, isC 161 (KC ks d st (wpre ks 0) 0)) :: r) (by rfl) ?_
 refine AU0 ?_
 refine JL.read 1 rfl rfl (r_loadA (n := 16) rfl (by rw [KC_len hk (wpre_len ks (by decide))]; decide) (KC_key hk)) ?_
 refine AU0 ?_
 refine JC.loop (fun m f l => ∃ i, i + m = 16 ∧ FrOk f [(0, ptr kb), (2, ptr b2), (12, .agg (ks.map bv).toArray), (13, .int .i64 (i : Int))] ∧ l = (b2, isC 364 ((wAt ks i).map w32)) :: (kb, isC 161 (KC ks d st (wpre ks 0) 0)) :: r) 16 ?_ ?_
 ·exact ⟨0, by omega, ⟨rfl, rfl, rfl, rfl, trivial⟩, rfl⟩
 rintro m f l ⟨i, hm, hf, rfl⟩
 refine JC.frame _ hf fun f' => ?_
 by_cases hi : i < 16
 ·have hi' : i < ks.length := by omega
  have hdm : i / 4 < 4 := by omega
  have hkv : (ks.map bv).toArray[i]? = some (bv (ks.getD i 0)) := by simp [hi', List.getD]
  have hm8 : IntKind.i64.wrap ((8 : Int) * ((i % 4 : Nat) : Int)) = ((8 * (i % 4) : Nat) : Int) := by
   rw [wrap_add (by omega) (by omega)]; omega
  repeat (first | refine JLp (y_indexV rfl rfl hi hkv) ?_ | refine AS0 ?_)
  refine JC.drawn 13 rfl mixed ?_
  refine JDp 0 rfl y_mv ?_
  refine JDp 1 rfl (y_quo (b := 4) rfl rfl (by decide) (by omega)) ?_
  refine JDp 2 rfl (y_indexA rfl rfl (by omega)) ?_
  refine JDr 3 0 rfl rfl (r_load1 rfl (w4_get ks i hdm)) ?_
  refine JDp 4 rfl y_mv ?_
  refine JDp 5 rfl (y_conv32 rfl) ?_
  refine JDp 6 rfl y_mv ?_
  refine JDp 7 rfl (y_rem (b := 4) rfl rfl (by decide)) ?_
  refine JDp 8 rfl (y_mul rfl rfl hm8) ?_
  refine JDp 9 rfl (y_shl32 rfl rfl (by omega)) ?_
  refine JDp 10 rfl (y_or32 rfl rfl) ?_
  refine JDp 11 rfl (y_indexA rfl rfl (by omega)) ?_
  refine JDe 12 rfl (e_store 0 rfl rfl (by conv => lhs; whnf) (vs := [w32 ((wAt ks i).getD (i / 4) 0 ||| (BitVec.ofNat 32 (ks.getD i 0).toNat <<< (8 * (i % 4))))]) rfl rfl rfl (by rw [List.length_map, wAt_len]; show 0 + (i / 4) * 1 + 1 ≤ 4; omega) ⟨tok_, ?_⟩)
  rw [w4_set]
  refine JDd ?_
  refine AU0 ?_
  exact RN.loop (m' := m - 1) (by omega) ⟨i + 1, by omega, ⟨rfl, rfl, rfl, rfl, trivial⟩, rfl⟩
 ·obtain rfl : i = 16 := by omega
  refine AU0 ?_
  refine JC.drawn 5 rfl mixed ?_
  refine JDp 0 rfl (y_indexA (j := 0) rfl rfl (by omega)) ?_
  refine JDr 1 0 rfl rfl (r_load1 rfl (w4_get ks 16 (j := 0) (by decide))) ?_
  refine JDp 2 rfl (y_sliceA (p := 1) (q := 4) rfl ⟨_, rfl⟩ rfl (by decide) (by decide) (by decide)) ?_
  refine JDp 3 rfl y_as ?_
  refine JDp 4 rfl y_as ?_
  refine JDd ?_
  refine AU0 ?_
  refine JC.perm (l' := (kb, isC 161 (KC ks d st (wpre ks 0) 0)) :: ([(b2, isC 364 ((wAt ks 16).map w32))] ++ r)) (List.Perm.swap ..) ?_
  refine JC.loop (fun m f l => ∃ i g o c pool, i + m = 27 ∧ FrOk f [(0, ptr kb), (5, w32 (sch ks i).1), (6, .slice (some ⟨g, o, none⟩) 3 c), (33, .int .i64 (i : Int))] ∧ l = (kb, isC 161 (KC ks d st (wpre ks i) 0)) :: (pool ++ r) ∧ LV W pool g o c (w32 (sch ks i).2.1) (w32 (sch ks i).2.2.1) (w32 (sch ks i).2.2.2)) 27 ?_ ?_
  ·refine ⟨0, b2, 0 + 1 * 1, 3, [(b2, isC 364 ((wAt ks 16).map w32))], by omega, ⟨rfl, rfl, rfl, rfl, trivial⟩, rfl, ?_, Nat.le_refl _, .inl rfl⟩
   refine Src.cells (List.mem_singleton.2 rfl) 1 fun j u hu => ?_
   obtain ⟨a0, a1, a2, a3, he⟩ : ∃ a0 a1 a2 a3, wAt ks 16 = [a0, a1, a2, a3] := by
    have := wAt_len ks 16
    match h : wAt ks 16, this with
    | [a0, a1, a2, a3], _ => exact ⟨a0, a1, a2, a3, rfl⟩
   simp only [sch, he, List.getD, List.map_cons, List.map_nil] at hu ⊢
   rw [Nat.add_comm]
   exact hu
  clear hm hi hf m f f'
  rintro m f l ⟨i, g, o, c, pool, hm, hf, rfl, hsrc, hc3, hLV⟩
  refine JC.frame _ hf fun f' => ?_
  by_cases hi : i < 27
  ·obtain ⟨⟨wd, wa, wb, wc⟩, hs⟩ : ∃ s, s = sch ks i := ⟨_, rfl⟩
   have hs' : sch ks (i + 1) = (r32 wd 3 ^^^ ((wd + r32 wa 24) ^^^ BitVec.ofNat 32 i), wb, wc, (wd + r32 wa 24) ^^^ BitVec.ofNat 32 i) := by rw [sch, ← hs]
   rw [← hs] at hsrc hLV ⊢
   simp only at hsrc hLV
   repeat (first | refine JLp (y_indexA rfl rfl hi) ?_ | refine AS0 ?_)
   refine JLs (e_store 0 rfl rfl (by conv => lhs; whnf) (vs := [w32 wd]) rfl rfl rfl (by rw [KC_len hk (wpre_len ks (by omega))]; show 0 + 19 + i * 1 + 1 ≤ 47; omega) ?_)
   refine JL.cast (l' := (kb, isC 161 (KC ks d st (wpre ks (i + 1)) 0)) :: (pool ++ r)) (by rw [← wpre_step ks hi, ← hs, ← KC_set_l hk (wpre_len ks (by omega)) hi]; rfl) ?_
   refine AU0 ?_
   refine JLs (e_loadS (u := w32 wa) rfl (fun w hw => hsrc.cell (j := 0) rfl (fun e he => by simp [he]) hw) ?_)
   refine JLs (e_call rfl rfl (Rot32_ok wa (-8) 24 (by decide +kernel) (by decide) W _) ?_)
   rintro v l' ⟨rfl, rfl⟩
   repeat (first | refine JLp (y_add32 rfl rfl) ?_ | refine JLp (y_conv32 rfl) ?_ | refine JLp (y_xor32 rfl rfl) ?_ | refine AS0 ?_)
   refine JLs (e_call rfl rfl (Rot32_ok wd 3 3 (by decide +kernel) (by decide) W _) ?_)
   rintro v l' ⟨rfl, rfl⟩
   repeat (first | refine JLp (y_xor32 rfl rfl) ?_ | refine JLp (y_sliceLt (l := 1) rfl rfl (by omega) (by omega) (by omega)) ?_ | refine AS0 ?_)
   obtain ⟨nx, hnx⟩ : ∃ nx, nx = (wd + r32 wa 24) ^^^ BitVec.ofNat 32 i := ⟨_, rfl⟩
   rw [← hnx] at hs' ⊢
   refine JLs (e_buildSlice (cells := [w32 nx]) [w32 nx] rfl lE_ rfl (fun u hu => by cases List.mem_singleton.1 hu; rfl) rfl fun b58 => ?_)
   have hn58 : ∀ l : List Ent, (b58, isR 150 1 [w32 nx]) ∈ l → ∀ w, SH W l w → ∀ j u, [w32 nx][j]? = some u → w.cell? ((⟨b58, 0, none⟩ : Addr).add j) = some u := fun l hl w hw j u hu => by
    rw [addr_add]
    exact (Src.whole (W := W) (r := l) hl).cell hu (fun e he => he) hw
   by_cases hroom : 3 ≤ c - 1
   ·rcases hLV with h3 | ⟨tot, xs, rfl, hxo, hot⟩
    ·omega
    refine JLs (e_appendIn 2 rfl rfl (by simp; omega) rfl rfl (hn58 _ (List.mem_cons_self ..)) (fun u hu => by cases List.mem_singleton.1 hu; rfl) hroom (by omega) ?_)
    refine JL.cast (l' := (b58, isR 150 1 [w32 nx]) :: (kb, isC 161 (KC ks d st (wpre ks (i + 1)) 0)) :: ([(g, isR 150 tot ((xs ++ [w32 wa]) ++ [w32 wb, w32 wc, w32 nx]))] ++ r)) (by simp) ?_
    refine JL.sub (List.sublist_cons_self _ _) ?_
    refine AU0 ?_
    refine RN.loop (m' := m - 1) (by omega) ⟨i + 1, g, o + 1 * 1, c - 1, [(g, isR 150 tot ((xs ++ [w32 wa]) ++ [w32 wb, w32 wc, w32 nx]))], by omega, ?_, rfl, ?_, hroom, .inr ⟨tot, xs ++ [w32 wa], ?_, by simp [hxo], by omega⟩⟩
    ·rw [hs']
     exact ⟨rfl, rfl, rfl, rfl, trivial⟩
    ·rw [hs']
     refine Src.row (List.mem_singleton.2 rfl) (o + 1 * 1) fun j u hu => ?_
     rw [List.getElem?_append_right (by simp; omega)]
     simp only [List.length_append, hxo, List.length_singleton]
     rw [show o + 1 * 1 + j - (o + 1) = j from by omega]
     exact hu
    ·rw [hs']
   ·refine JLs (e_appendGrow (olds := [w32 wb, w32 wc]) rfl rfl (fun w hw j u hu => ?_) rfl rfl (hn58 _ (List.mem_cons_self ..)) (by omega) (by decide) (by decide) fun g' cap' h1 h2 => ?_)
    ·have hc := hsrc.cell (j := 1 + j) (u := u) (by rw [Nat.add_comm]; exact hu) (fun e he => by simp [he]) hw
     rw [addr_add]
     rw [show o + 1 * 1 + j = o + (1 + j) from by omega]
     exact hc
    refine JL.sub (l' := (g', isR 150 (cap' * 1) ([] ++ [w32 wb, w32 wc, w32 nx])) :: (kb, isC 161 (KC ks d st (wpre ks (i + 1)) 0)) :: r) (List.Sublist.cons_cons _ (List.Sublist.cons _ (List.Sublist.cons_cons _ (List.sublist_append_right _ _)))) ?_
    refine JL.perm (l' := (kb, isC 161 (KC ks d st (wpre ks (i + 1)) 0)) :: ([(g', isR 150 (cap' * 1) ([] ++ [w32 wb, w32 wc, w32 nx]))] ++ r)) (List.Perm.swap ..) ?_
    refine AU0 ?_
    refine RN.loop (m' := m - 1) (by omega) ⟨i + 1, g', 0, cap', [(g', isR 150 (cap' * 1) ([] ++ [w32 wb, w32 wc, w32 nx]))], by omega, ?_, rfl, ?_, by omega, .inr ⟨cap' * 1, [], ?_, rfl, by omega⟩⟩
    ·rw [hs']
     exact ⟨rfl, rfl, rfl, rfl, trivial⟩
    ·rw [hs']
     exact Src.row (List.mem_singleton.2 rfl) 0 fun j u hu => by simpa using hu
    ·rw [hs']
  ·obtain rfl : i = 27 := by omega
   refine AU0 ?_
   refine JLs (e_call rfl rfl (Store_ok (o := 46) 0 rfl (KC_made hk (wpre_len ks (by decide)))) ?_)
   rintro v l' ⟨rfl, rfl⟩
   rw [KC_set_made hk (wpre_len ks (by decide)), wpre_end]
   refine JL.sub (l' := (kb, isC 161 (KC ks d st (words ks) 1)) :: r) (List.Sublist.cons_cons _ (List.sublist_append_right _ _)) ?_
   refine AU0 ?_
   exact RN.none rfl rfl
end Go.Proofs.YtbalcgjphkdecaaGreatDoor.Sp
namespace Go.Proofs.YtbalcgjphkdecaaGreatDoor.Sp
open Go.RowKit Go.Lg
set_option maxRecDepth 100000
attribute [local irreducible] JC JL JD RN RT Eff Yld YldIf Tr JCd JLd RNd Door TrD
def kst (ks : List UInt8) (m : Bool) : List Value := bif m then KC ks 1 0 (words ks) 1 else KC ks 0 0 (wpre ks 0) 0
theorem words_len (ks : List UInt8) : (words ks).length = 27 := by simp [words]
set_option maxRecDepth 100000 in
theorem doSlow_ok {ks : List UInt8} (hk : ks.length = 16) {kb : Nat} {W : World} {r : List Ent} :
  Tr Pg 234 #[.pointer (some ⟨kb, 16, none⟩), .func (.func 200) #[ptr kb] #[]] W ((kb, isC 161 (KC ks 0 0 (wpre ks 0) 0)) :: r) fun v l' => l' = (kb, isC 161 (KC ks 1 0 (words ks) 1)) :: r := by
 have hw0 := wpre_len ks (i := 0) (by decide)
 refine Tr.of_defers (args := [_, _]) Tryz.func234 rfl Tryz.ntmps234 lE_ ?_
 repeat (first | refine JCd.seq ?_ | refine JLd.nil ?_ | refine RNd.seq ?_ | refine JCd.region ?_ | refine JCd.skip ?_ | refine JCd.cond_t rfl ?_ | refine JCd.cond_f rfl ?_ | refine JLd.pure y_mv ?_ | refine JLd.pure y_as ?_ | refine JLd.pure (y_nilCheck rfl) ?_ | refine JLd.pure (y_fieldAddr rfl) ?_ | refine JLd.pure (y_not rfl) ?_)
 refine JLd.step (e_call rfl rfl (Lock_ok (o := 17) 0 rfl (KC_st hk)) ?_)
 rintro v l' ⟨rfl, rfl⟩
 rw [KC_set_st hk]
 refine JLd.cast (l' := (kb, isC 161 (KC ks 0 1 (wpre ks 0) 0)) :: r) (by rfl) ?_
 repeat (first | refine JCd.seq ?_ | refine JLd.nil ?_ | refine RNd.seq ?_ | refine JCd.region ?_ | refine JCd.skip ?_ | refine JCd.cond_t rfl ?_ | refine JCd.cond_f rfl ?_ | refine JLd.pure y_mv ?_ | refine JLd.pure y_as ?_ | refine JLd.pure (y_nilCheck rfl) ?_ | refine JLd.pure (y_fieldAddr rfl) ?_ | refine JLd.pure (y_not rfl) ?_)
 refine JLd.defer (vs := [.pointer (some ⟨kb, 17, none⟩)]) rfl rfl ?_
 repeat (first | refine JCd.seq ?_ | refine JLd.nil ?_ | refine RNd.seq ?_ | refine JCd.region ?_ | refine JCd.skip ?_ | refine JCd.cond_t rfl ?_ | refine JCd.cond_f rfl ?_ | refine JLd.pure y_mv ?_ | refine JLd.pure y_as ?_ | refine JLd.pure (y_nilCheck rfl) ?_ | refine JLd.pure (y_fieldAddr rfl) ?_ | refine JLd.pure (y_not rfl) ?_)
 refine JLd.step (e_call rfl rfl (Load_ok (o := 16) (q := false) 0 rfl (KC_done hk) rfl) ?_)
 rintro v l' ⟨rfl, rfl⟩
 repeat (first | refine JCd.seq ?_ | refine JLd.nil ?_ | refine RNd.seq ?_ | refine JCd.region ?_ | refine JCd.skip ?_ | refine JCd.cond_t rfl ?_ | refine JCd.cond_f rfl ?_ | refine JLd.pure y_mv ?_ | refine JLd.pure y_as ?_ | refine JLd.pure (y_nilCheck rfl) ?_ | refine JLd.pure (y_fieldAddr rfl) ?_ | refine JLd.pure (y_not rfl) ?_)
 refine JLd.defer (vs := [.pointer (some ⟨kb, 16, none⟩), .bool true]) rfl rfl ?_
 repeat (first | refine JCd.seq ?_ | refine JLd.nil ?_ | refine RNd.seq ?_ | refine JCd.region ?_ | refine JCd.skip ?_ | refine JCd.cond_t rfl ?_ | refine JCd.cond_f rfl ?_ | refine JLd.pure y_mv ?_ | refine JLd.pure y_as ?_ | refine JLd.pure (y_nilCheck rfl) ?_ | refine JLd.pure (y_fieldAddr rfl) ?_ | refine JLd.pure (y_not rfl) ?_)
 refine JLd.step (e_call rfl rfl (make_ok hk) ?_)
 rintro v l' rfl
 repeat (first | refine JCd.seq ?_ | refine JLd.nil ?_ | refine RNd.seq ?_ | refine JCd.region ?_ | refine JCd.skip ?_ | refine JCd.cond_t rfl ?_ | refine JCd.cond_f rfl ?_ | refine JLd.pure y_mv ?_ | refine JLd.pure y_as ?_ | refine JLd.pure (y_nilCheck rfl) ?_ | refine JLd.pure (y_fieldAddr rfl) ?_ | refine JLd.pure (y_not rfl) ?_)
 refine RNd.door ?_
 refine Door.cons (vs := [.pointer (some ⟨kb, 16, none⟩), .bool true]) (Store_okD (o := 16) 0 rfl (KC_done hk)) ?_
 rintro v l' ⟨rfl, rfl⟩
 rw [KC_set_done hk]
 refine Door.cons (vs := [.pointer (some ⟨kb, 17, none⟩)]) (Unlock_okD (o := 17) 0 rfl (KC_st hk)) ?_
 rintro v l' ⟨rfl, rfl⟩
 rw [KC_set_st hk]
 exact Door.nil rfl rfl
theorem Do_first {ks : List UInt8} (hk : ks.length = 16) {kb : Nat} {W : World} {r : List Ent} :
  Tr Pg 199 #[.pointer (some ⟨kb, 16, none⟩), .func (.func 200) #[ptr kb] #[]] W ((kb, isC 161 (kst ks false)) :: r) fun v l' => l' = (kb, isC 161 (kst ks true)) :: r := by
 refine Tr.of_code (args := [_, _]) Tryz.func199 rfl Tryz.ntmps199 lE_ ?_
 refine AU0 ?_
 refine JLs (e_call rfl rfl (Load_ok (o := 16) (q := false) 0 rfl (KC_done hk) rfl) ?_)
 rintro v l' ⟨rfl, rfl⟩
 refine AU0 ?_
 refine JLs (e_call rfl rfl (doSlow_ok hk) ?_)
 rintro v l' rfl
 refine AU0 ?_
 exact RN.none rfl rfl
theorem Do_done {ks : List UInt8} (hk : ks.length = 16) {kb : Nat} {W : World} {r : List Ent} {fv : Value} :
  Tr Pg 199 #[.pointer (some ⟨kb, 16, none⟩), fv] W ((kb, isC 161 (kst ks true)) :: r) fun v l' => l' = (kb, isC 161 (kst ks true)) :: r := by
 refine Tr.of_code (args := [_, _]) Tryz.func199 rfl Tryz.ntmps199 lE_ ?_
 refine AU0 ?_
 refine JLs (e_call rfl rfl (Load_ok (o := 16) (q := true) 0 rfl (KC_done hk) rfl) ?_)
 rintro v l' ⟨rfl, rfl⟩
 refine AU0 ?_
 exact RN.none rfl rfl
theorem words_ok {ks : List UInt8} (hk : ks.length = 16) {kb : Nat} (m : Bool) {W : World} {r : List Ent} :
  Tr Pg 142 #[ptr kb] W ((kb, isC 161 (kst ks m)) :: r) fun v l' => v = .slice (some ⟨kb, 19, none⟩) 27 27 ∧ l' = (kb, isC 161 (kst ks true)) :: r := by
 refine Tr.of_code (args := [_]) Tryz.func142 rfl Tryz.ntmps142 lE_ ?_
 repeat (first | refine JLp (y_makeFunc (v := .func (.func 200) #[ptr kb] #[]) (by simp; rfl)) ?_ | refine AS0 ?_)
 have hdo : Tr Pg 199 #[.pointer (some ⟨kb, 16, none⟩), .func (.func 200) #[ptr kb] #[]] W ((kb, isC 161 (kst ks m)) :: r) fun v l' => l' = (kb, isC 161 (kst ks true)) :: r := by
  cases m with
  | false => exact Do_first hk
  | true => exact Do_done hk
 refine JLs (e_call rfl rfl hdo ?_)
 rintro v l' rfl
 repeat (first | refine JLp (y_sliceA (p := 0) (q := 27) rfl rfl rfl (by decide) (by decide) (by decide)) ?_ | refine AS0 ?_)
 exact JC.ret (RT.one rfl rfl rfl ⟨rfl, rfl⟩)
theorem words_src {ks : List UInt8} (hk : ks.length = 16) (kb : Nat) (W : World) (r : List Ent) : Src W ((kb, isC 161 (kst ks true)) :: r) (some ⟨kb, 19, none⟩) ((words ks).map w32) :=
 Src.cells (List.mem_cons_self ..) 19 fun j u hu => KC_words hk (words_len ks) j u hu
theorem list16 {ks : List UInt8} (hk : ks.length = 16) : ∃ a0 a1 a2 a3 a4 a5 a6 a7 a8 a9 a10 a11 a12 a13 a14 a15 : UInt8, ks = [a0, a1, a2, a3, a4, a5, a6, a7, a8, a9, a10, a11, a12, a13, a14, a15] := by
 match ks, hk with
 | [a0, a1, a2, a3, a4, a5, a6, a7, a8, a9, a10, a11, a12, a13, a14, a15], _ => exact ⟨a0, a1, a2, a3, a4, a5, a6, a7, a8, a9, a10, a11, a12, a13, a14, a15, rfl⟩
def fresh (a0 a1 a2 a3 a4 a5 a6 a7 a8 a9 a10 a11 a12 a13 a14 a15 : UInt8) : List Value := [bv a0, bv a1, bv a2, bv a3, bv a4, bv a5, bv a6, bv a7, bv a8, bv a9, bv a10, bv a11, bv a12, bv a13, bv a14, bv a15, .int .u32 0, .int .i32 0, .int .u32 0, .int .u32 0, .int .u32 0, .int .u32 0, .int .u32 0, .int .u32 0, .int .u32 0, .int .u32 0, .int .u32 0, .int .u32 0, .int .u32 0, .int .u32 0, .int .u32 0, .int .u32 0, .int .u32 0, .int .u32 0, .int .u32 0, .int .u32 0, .int .u32 0, .int .u32 0, .int .u32 0, .int .u32 0, .int .u32 0, .int .u32 0, .int .u32 0, .int .u32 0, .int .u32 0, .int .u32 0, .int .u32 0]
theorem fresh_eq (a0 a1 a2 a3 a4 a5 a6 a7 a8 a9 a10 a11 a12 a13 a14 a15 : UInt8) : kst [a0, a1, a2, a3, a4, a5, a6, a7, a8, a9, a10, a11, a12, a13, a14, a15] false = fresh a0 a1 a2 a3 a4 a5 a6 a7 a8 a9 a10 a11 a12 a13 a14 a15 := rfl
set_option maxRecDepth 100000 in
set_option maxHeartbeats 1000000 in
theorem New_ok {ks : List UInt8} (hk : ks.length = 16) {W : World} {r : List Ent} : Tr Pg 35 #[.agg (ks.map bv).toArray] W r fun v l' => ∃ kb, v = ptr kb ∧ l' = (kb, isC 161 (kst ks false)) :: r := by
 obtain ⟨a0, a1, a2, a3, a4, a5, a6, a7, a8, a9, a10, a11, a12, a13, a14, a15, rfl⟩ := list16 hk
 rw [fresh_eq]
 refine Tr.of_code (args := [_]) Tryz.func35 rfl Tryz.ntmps35 lE_ ?_
 refine AU0 ?_
 refine JLs (e_box (cs := [a0, a1, a2, a3, a4, a5, a6, a7, a8, a9, a10, a11, a12, a13, a14, a15].map bv) rfl rfl fun b1 => ?_)
 refine AU1 ?_
 refine JLp (y_build (cells := (fresh a0 a1 a2 a3 a4 a5 a6 a7 a8 a9 a10 a11 a12 a13 a14 a15).toArray) (by kernel_rfl)) ?_
 refine JLs (e_box (cs := fresh a0 a1 a2 a3 a4 a5 a6 a7 a8 a9 a10 a11 a12 a13 a14 a15) rfl rfl fun kb => ?_)
 refine AU0 ?_
 refine JC.sub (l' := (kb, isC 161 (fresh a0 a1 a2 a3 a4 a5 a6 a7 a8 a9 a10 a11 a12 a13 a14 a15)) :: r) (List.Sublist.cons_cons _ (List.sublist_cons_self _ _)) ?_
 exact JC.ret (RT.one rfl rfl rfl ⟨kb, rfl, rfl⟩)
end Go.Proofs.YtbalcgjphkdecaaGreatDoor.Sp
namespace Go.Proofs.YtbalcgjphkdecaaGreatDoor.Sp
open Go.RowKit Go.Lg
set_option maxRecDepth 100000
attribute [local irreducible] JC JL JD RN RT Eff Yld YldIf Tr
def encS (w : BitVec 32) (s : BitVec 32 × BitVec 32) : BitVec 32 × BitVec 32 := ((r32 s.1 24 + s.2) ^^^ w, r32 s.2 3 ^^^ ((r32 s.1 24 + s.2) ^^^ w))
def encN (ls : List (BitVec 32)) : Nat → BitVec 32 × BitVec 32 → BitVec 32 × BitVec 32
 | 0, s => s
 | i + 1, s => encS (ls.getD i 0) (encN ls i s)
def tup (s : BitVec 32 × BitVec 32) : Value := .tuple #[w32 s.1, w32 s.2]
theorem w32_at {ls : List (BitVec 32)} {j : Nat} (hj : j < ls.length) : (ls.map w32)[j]? = some (w32 (ls.getD j 0)) := by
 rw [List.getElem?_map, List.getElem?_eq_getElem hj]
 simp [List.getD, hj]
set_option maxHeartbeats 1000000 in
theorem Block_ok {ks : List UInt8} (hk : ks.length = 16) {kb : Nat} (m : Bool) (x y : BitVec 32) {W : World} {r : List Ent} :
  Tr Pg 114 #[ptr kb, w32 x, w32 y] W ((kb, isC 161 (kst ks m)) :: r) fun v l' => v = tup (encN (words ks) 27 (x, y)) ∧ l' = (kb, isC 161 (kst ks true)) :: r := by
 refine Tr.of_code (args := [_, _, _]) Tryz.func114 rfl Tryz.ntmps114 lE_ ?_
 refine AU0 ?_
 refine JLs (e_call rfl rfl (words_ok hk m) ?_)
 rintro v l' ⟨rfl, rfl⟩
 refine AU0 ?_
 refine JC.loop (fun m f l => ∃ i s, i + m = 27 ∧ s = encN (words ks) i (x, y) ∧ FrOk f [(1, w32 s.1), (2, w32 s.2), (13, .slice (some ⟨kb, 19, none⟩) 27 27), (14, .int .i64 ((27 : Nat) : Int)), (15, .int .i64 (i : Int))] ∧ l = (kb, isC 161 (kst ks true)) :: r) 27 ?_ ?_
 ·exact ⟨0, (x, y), by omega, rfl, ⟨rfl, rfl, rfl, rfl, rfl, trivial⟩, rfl⟩
 rintro m f l ⟨i, ⟨x1, y1⟩, hm, hs, hf, rfl⟩
 refine JC.frame _ hf fun f' => ?_
 by_cases hi : i < 27
 ·refine AU0 ?_
  refine JLs (e_loadS (u := w32 ((words ks).getD i 0)) rfl (fun w hw => by rw [Nat.mul_one]; exact (words_src hk kb W r).cell (w32_at (by rw [words_len]; exact hi)) (fun e he => he) hw) ?_)
  refine AU0 ?_
  refine JLs (e_call rfl rfl (Rot32_ok x1 (-8) 24 (by decide +kernel) (by decide) W _) ?_)
  rintro v l' ⟨rfl, rfl⟩
  repeat (first | refine JLp (y_add32 rfl rfl) ?_ | refine JLp (y_xor32 rfl rfl) ?_ | refine AS0 ?_)
  refine JLs (e_call rfl rfl (Rot32_ok y1 3 3 (by decide +kernel) (by decide) W _) ?_)
  rintro v l' ⟨rfl, rfl⟩
  repeat (first | refine JLp (y_xor32 rfl rfl) ?_ | refine AS0 ?_)
  exact RN.loop (m' := m - 1) (by omega) ⟨i + 1, encS ((words ks).getD i 0) (x1, y1), by omega, by rw [encN, ← hs], ⟨rfl, rfl, rfl, rfl, rfl, trivial⟩, rfl⟩
 ·obtain rfl : i = 27 := by omega
  rw [← hs]
  refine AU0 ?_
  exact JC.ret (RT.two rfl rfl rfl rfl ⟨rfl, rfl⟩)
end Go.Proofs.YtbalcgjphkdecaaGreatDoor.Sp
namespace Go.Proofs.YtbalcgjphkdecaaGreatDoor.Sp
open Go.RowKit Go.Lg
set_option maxRecDepth 100000
attribute [local irreducible] JC JL JD RN RT Eff Yld YldIf Tr
def bytes4 (x : BitVec 32) : List UInt8 := [UInt8.ofNat x.toNat, UInt8.ofNat (x >>> 8).toNat, UInt8.ofNat (x >>> 16).toNat, UInt8.ofNat (x >>> 24).toNat]
def blk (s : BitVec 32 × BitVec 32) : List UInt8 := bytes4 s.1 ++ bytes4 s.2
def sblk (ls : List (BitVec 32)) (nc : BitVec 64) (k : Nat) : BitVec 32 × BitVec 32 := encN ls 27 (BitVec.ofNat 32 (nc >>> 32).toNat, BitVec.ofNat 32 nc.toNat + BitVec.ofNat 32 k)
def strm (ls : List (BitVec 32)) (nc : BitVec 64) (k : Nat) : List UInt8 := (List.range k).flatMap fun j => blk (sblk ls nc j)
theorem strm_succ (ls : List (BitVec 32)) (nc : BitVec 64) (k : Nat) : strm ls nc (k + 1) = strm ls nc k ++ blk (sblk ls nc k) := by simp [strm, List.range_succ]
theorem strm_len (ls : List (BitVec 32)) (nc : BitVec 64) : ∀ k, (strm ls nc k).length = 8 * k
 | 0 => rfl
 | k + 1 => by rw [strm_succ, List.length_append, strm_len ls nc k]; simp [blk, bytes4]; omega
theorem strm_pre (ls : List (BitVec 32)) (nc : BitVec 64) (k : Nat) : ∀ j, ∃ t, strm ls nc (k + j) = strm ls nc k ++ t
 | 0 => ⟨[], by simp⟩
 | j + 1 => by
  obtain ⟨t, ht⟩ := strm_pre ls nc k j
  exact ⟨t ++ blk (sblk ls nc (k + j)), by rw [← Nat.add_assoc, strm_succ, ht, List.append_assoc]⟩
def stm (ls : List (BitVec 32)) (nc : BitVec 64) (n : Nat) : List UInt8 := (strm ls nc n).take n
theorem stm_len (ls : List (BitVec 32)) (nc : BitVec 64) (n : Nat) : (stm ls nc n).length = n := by simp [stm, strm_len]; omega
theorem stm_eq (ls : List (BitVec 32)) (nc : BitVec 64) {n k : Nat} (h : n ≤ 8 * k) : (strm ls nc k).take n = stm ls nc n := by
 unfold stm
 rcases Nat.le_total k n with h1 | h1
 ·obtain ⟨j, rfl⟩ := Nat.exists_eq_add_of_le h1
  obtain ⟨t, ht⟩ := strm_pre ls nc k j
  rw [ht, List.take_append_of_le_length (by rw [strm_len]; exact h)]
 ·obtain ⟨j, rfl⟩ := Nat.exists_eq_add_of_le h1
  obtain ⟨t, ht⟩ := strm_pre ls nc n j
  rw [ht, List.take_append_of_le_length (by rw [strm_len]; omega)]
theorem blk_step (s : BitVec 32 × BitVec 32) (j : Nat) (hj : j < 2) : (blk s).take (4 * j) ++ bytes4 (([s.1, s.2]).getD j 0) = (blk s).take (4 * (j + 1)) := by
 match j, hj with
 | 0, _ => rfl
 | 1, _ => rfl
theorem own_some {e : TypeId} {sz : Nat} {v : Value} {n : Nat} {xs : List Value} {le : List Ent} (h : Lg.Own e sz v n xs le) (h0 : 0 < n) : ∃ g cap, v = .slice (some ⟨g, 0, none⟩) n cap ∧ n ≤ cap ∧ cap ≤ maxLen ∧ le = [(g, isR e (cap * sz) xs)] := by
 rcases h.2 with ⟨_, h1, _⟩ | h1
 ·omega
 ·exact h1
set_option maxRecDepth 100000 in
set_option maxHeartbeats 4000000 in
theorem Stream_ok {ks : List UInt8} (hk : ks.length = 16) {kb : Nat} (m0 : Bool) (nc : BitVec 64) (N : Nat) (hN : 1 ≤ N) (hN2 : N ≤ 35184372088832) {W : World} {r : List Ent} :
  Tr Pg 79 #[ptr kb, w64 nc, .int .i64 (N : Int)] W ((kb, isC 161 (kst ks m0)) :: r) fun v l' => ∃ le, Lg.Own 5 1 v N ((stm (words ks) nc N).map bv) le ∧ l' = le ++ ((kb, isC 161 (kst ks true)) :: r) := by
 refine Tr.of_code (args := [_, _, _]) Tryz.func79 rfl Tryz.ntmps79 lE_ ?_
 refine AU0 ?_
 refine JLs (e_makeCap (n := N + 8) rfl rfl (by omega) (by unfold maxLen; omega) fun b7 => ?_)
 refine AU0 ?_
 refine JC.loop (fun m f l => ∃ k v le mm, (m = N - 8 * k) ∧ (0 < k → mm = true) ∧ FrOk f [(0, ptr kb), (1, w64 nc), (2, .int .i64 (N : Int)), (7, v), (8, w32 (BitVec.ofNat 32 k))] ∧ Lg.Own 5 1 v (8 * k) ((strm (words ks) nc k).map bv) le ∧ l = le ++ ((kb, isC 161 (kst ks mm)) :: r)) N ?_ ?_
 ·exact ⟨0, _, [_], m0, rfl, (fun h => absurd h (by decide)), ⟨rfl, rfl, rfl, rfl, rfl, trivial⟩, ⟨rfl, .inr ⟨b7, N + 8, rfl, by omega, by unfold maxLen; omega, rfl⟩⟩, rfl⟩
 rintro m f l ⟨k, v, le, mm, hm, hmm, hf, ho, rfl⟩
 refine JC.frame _ hf fun f' => ?_
 obtain ⟨A, c, rfl, -, -⟩ := ho.src (W := W)
 by_cases hi : 8 * k < N
 ·repeat (first | refine JLp (y_shr64 (n := 32) rfl rfl (by decide)) ?_ | refine JLp (y_conv32 rfl) ?_ | refine JLp (y_add32 rfl rfl) ?_ | refine AS0 ?_)
  refine JLs (e_call rfl rfl (Tr.perm (l' := (kb, isC 161 (kst ks mm)) :: (le ++ r)) prm_ (Block_ok hk mm _ _)) ?_)
  rintro v l' ⟨rfl, rfl⟩
  refine AU0 ?_
  refine JLs (e_buildSlice (cells := [w32 (sblk (words ks) nc k).1, w32 (sblk (words ks) nc k).2]) [w32 (sblk (words ks) nc k).1, w32 (sblk (words ks) nc k).2] rfl lE_ rfl (by simp [w32, Value.cells]) rfl fun b42 => ?_)
  refine AU0 ?_
  refine JC.loop (fun m f l => ∃ j v le, j + m = 2 ∧ FrOk f [(0, ptr kb), (1, w64 nc), (2, .int .i64 (N : Int)), (7, v), (8, w32 (BitVec.ofNat 32 k)), (42, .slice (some ⟨b42, 0, none⟩) 2 2), (43, .int .i64 ((2 : Nat) : Int)), (44, .int .i64 (j : Int))] ∧ Lg.Own 5 1 v (8 * k + 4 * j) ((strm (words ks) nc k ++ (blk (sblk (words ks) nc k)).take (4 * j)).map bv) le ∧ l = (b42, isR 150 2 [w32 (sblk (words ks) nc k).1, w32 (sblk (words ks) nc k).2]) :: (kb, isC 161 (kst ks true)) :: (le ++ r)) 2 ?_ ?_
  ·exact ⟨0, _, le, by omega, ⟨rfl, rfl, rfl, rfl, rfl, rfl, rfl, rfl, trivial⟩, by simpa using ho, rfl⟩
  clear ho hf f hmm
  rintro m1 f l ⟨j, v, le, hm1, hf, ho, rfl⟩
  refine JC.frame _ hf fun f' => ?_
  obtain ⟨A, c, rfl, -, -⟩ := ho.src (W := W)
  by_cases hj : j < 2
  ·refine AU0 ?_
   refine JLs (e_loadS (u := w32 (([(sblk (words ks) nc k).1, (sblk (words ks) nc k).2]).getD j 0)) rfl (fun w hw => by rw [Nat.mul_one]; exact (Src.whole (W := W) (r := [(b42, isR 150 2 [w32 (sblk (words ks) nc k).1, w32 (sblk (words ks) nc k).2])]) (List.mem_singleton.2 rfl)).cell (w32_at (ls := [(sblk (words ks) nc k).1, (sblk (words ks) nc k).2]) hj) (fun e he => by simp at he; simp [he]) hw) ?_)
   generalize hwj : ([(sblk (words ks) nc k).1, (sblk (words ks) nc k).2]).getD j 0 = wj
   repeat (first | refine JLp (y_shr32 (n := 8) rfl rfl (by decide)) ?_ | refine JLp (y_shr32 (n := 16) rfl rfl (by decide)) ?_ | refine JLp (y_shr32 (n := 24) rfl rfl (by decide)) ?_ | refine JLp (y_conv8 rfl) ?_ | refine AS0 ?_)
   refine JLs (e_buildSlice (cells := (bytes4 wj).map bv) ((bytes4 wj).map bv) rfl lE_ rfl (by simp [bytes4, bv, Value.cells]) rfl fun b60 => ?_)
   refine JLs (e_appendP [_, _, _] le rfl rfl ho rfl (news := (bytes4 wj).map bv) rfl (Src.whole (List.mem_cons_self ..)) (bv_one _) (by omega) (by unfold maxLen; omega) fun v' le' ho' _ => ?_)
   refine JL.sub (l' := (b42, isR 150 2 [w32 (sblk (words ks) nc k).1, w32 (sblk (words ks) nc k).2]) :: (kb, isC 161 (kst ks true)) :: (le' ++ r)) (List.sublist_cons_self _ _) ?_
   refine AU0 ?_
   refine RN.loop (m' := m1 - 1) (by omega) ⟨j + 1, v', le', by omega, ⟨rfl, rfl, rfl, rfl, rfl, rfl, rfl, rfl, trivial⟩, ?_, rfl⟩
   rw [← blk_step _ j hj, hwj, ← List.append_assoc, List.map_append (l₂ := bytes4 wj)]
   exact ho'
  ·obtain rfl : j = 2 := by omega
   repeat (first | refine JLp (y_add32 (b := 1#32) rfl rfl) ?_ | refine AS0 ?_)
   refine RN.perm (l' := (b42, isR 150 2 [w32 (sblk (words ks) nc k).1, w32 (sblk (words ks) nc k).2]) :: (le ++ ((kb, isC 161 (kst ks true)) :: r))) prm_ (RN.sub (List.sublist_cons_self _ _) ?_)
   refine RN.loop (m' := N - 8 * (k + 1)) (by omega) ⟨k + 1, _, le, true, rfl, fun _ => rfl, ⟨rfl, rfl, rfl, rfl, by rw [BitVec.ofNat_add]; rfl, trivial⟩, ?_, rfl⟩
   have e : (blk (sblk (words ks) nc k)).take (4 * 2) = blk (sblk (words ks) nc k) := List.take_of_length_le (by simp [blk, bytes4])
   rw [e, ← strm_succ] at ho
   exact ho
 ·obtain rfl : mm = true := hmm (by omega)
  obtain ⟨g, cap, hv, hc1, hc2, rfl⟩ := own_some ho (by omega)
  cases hv
  repeat (first | refine JLp (y_sliceTo (h := N) rfl rfl (by omega)) ?_ | refine AS0 ?_)
  have hst := stm_eq (words ks) nc (n := N) (k := k) (by omega)
  refine JC.weak [] rfl (p' := isR 5 (c * 1) ((stm (words ks) nc N).map bv)) (fun o => isR_take (by rw [List.length_map, stm_len, ← hst, List.map_take])) ?_
  exact JC.ret (RT.one rfl rfl rfl ⟨[_], ⟨by rw [List.length_map, stm_len, Nat.mul_one], .inr ⟨g, c, rfl, by omega, hc2, rfl⟩⟩, rfl⟩)
theorem Stream_none {p : Value} {W : World} {r : List Ent} {nc : BitVec 64} {n : Int} (hp : p = .pointer none ∨ ∃ kb, p = ptr kb ∧ n < 1) : Tr Pg 79 #[p, w64 nc, .int .i64 n] W r fun v l' => v = .slice none 0 0 ∧ l' = r := by
 refine Tr.of_code (args := [_, _, _]) Tryz.func79 rfl Tryz.ntmps79 lE_ ?_
 rcases hp with rfl | ⟨kb, rfl, hn⟩
 ·refine AU0 ?_
  exact JC.ret (RT.one rfl rfl rfl ⟨rfl, rfl⟩)
 ·refine AU0 ?_
  exact JC.ret (RT.one rfl rfl rfl ⟨rfl, rfl⟩)
end Go.Proofs.YtbalcgjphkdecaaGreatDoor.Sp


namespace Go.Proofs.YtbalcgjphkdecaaGreatDoor.Si
open Go.RowKit Go.Lg
set_option maxRecDepth 100000
attribute [local irreducible] JC JL JD RN RT Eff Yld YldIf Tr
def rot (x : BitVec 64) (n : Nat) : BitVec 64 := (x <<< n) ||| (x >>> (64 - n))
theorem Rot_ok (x : BitVec 64) (n : Nat) (hb : bits .and .u64 (n : Int) 63 = (n : Int)) (hn : n ≤ 64) (W : World) (l : List Ent) : Tr Pg 260 #[w64 x, .int .i64 (n : Int)] W l fun v l' => v = w64 (rot x n) ∧ l' = l := by
 refine Tr.of_code (args := [_, _]) Tryz.func260 rfl Tryz.ntmps260 lE_ ?_
 have h1 : IntKind.u64.wrap (n : Int) = (n : Int) := wrap_lt rfl (Nat.lt_of_le_of_lt hn (by decide))
 have h2 : IntKind.u64.wrap ((64 : Int) - (n : Int)) = ((64 - n : Nat) : Int) := by
  rw [show (64 : Int) - (n : Int) = ((64 - n : Nat) : Int) from by omega]
  exact wrap_lt rfl (Nat.lt_of_le_of_lt (Nat.sub_le _ _) (by decide))
 repeat (first | refine JLp (y_conv rfl h1) ?_ | refine JLp (y_andC rfl rfl hb) ?_ | refine JLp (y_shl64 rfl rfl hn) ?_ | refine JLp (y_sub rfl rfl h2) ?_ | refine JLp (y_shr64 rfl rfl (Nat.sub_le _ _)) ?_ | refine JLp (y_or64 rfl rfl) ?_ | refine AS0 ?_)
 exact JC.ret (RT.one rfl rfl rfl ⟨rfl, rfl⟩)
structure S4 where
 a : BitVec 64
 b : BitVec 64
 c : BitVec 64
 d : BitVec 64
def S4.cells (s : S4) : List Value := [w64 s.a, w64 s.b, w64 s.c, w64 s.d]
def S4.round (s : S4) : S4 :=
 let a1 := s.a + s.b
 let b1 := rot s.b 13 ^^^ a1
 let a2 := rot a1 32
 let c1 := s.c + s.d
 let d1 := rot s.d 16 ^^^ c1
 let a3 := a2 + d1
 let d2 := rot d1 21 ^^^ a3
 let c2 := c1 + b1
 let b2 := rot b1 17 ^^^ c2
 ⟨a3, b2, rot c2 32, d2⟩
def S4.rounds (s : S4) : Nat → S4
 | 0 => s
 | n + 1 => (S4.rounds s n).round
def S4.take (s : S4) (m : BitVec 64) : S4 :=
 let t := S4.round (S4.round ⟨s.a, s.b, s.c, s.d ^^^ m⟩)
 ⟨t.a ^^^ m, t.b, t.c, t.d⟩
def ptr (b : Nat) : Value := .pointer (some ⟨b, 0, none⟩)
end Go.Proofs.YtbalcgjphkdecaaGreatDoor.Si
namespace Go.Proofs.YtbalcgjphkdecaaGreatDoor.Si
open Go.RowKit Go.Lg
set_option maxRecDepth 100000
attribute [local irreducible] JC JL JD RN RT Eff Yld YldIf Tr
set_option maxRecDepth 100000 in
set_option maxHeartbeats 4000000 in
theorem rounds_ok (s : S4) (n b0 : Nat) (hn : n ≤ 100) (W : World) (r : List Ent) : Tr Pg 239 #[ptr b0, .int .i64 (n : Int)] W ((b0, isC 369 s.cells) :: r) fun v l' => l' = (b0, isC 369 (s.rounds n).cells) :: r := by
 refine Tr.of_code (args := [_, _]) Tryz.func239 rfl Tryz.ntmps239 lE_ ?_
 refine AU0 ?_
 refine JC.loop (fun m f l => ∃ k, k + m = n ∧ FrOk f [(0, ptr b0), (4, .int .i64 (n : Int)), (5, .int .i64 (k : Int))] ∧ l = (b0, isC 369 (s.rounds k).cells) :: r) n ?_ ?_
 ·exact ⟨0, by omega, ⟨rfl, rfl, rfl, trivial⟩, rfl⟩
 rintro m f l ⟨k, hm, hf, rfl⟩
 refine JC.frame _ hf fun f' => ?_
 by_cases hk : k < n
 ·obtain ⟨⟨a, b, c, d⟩, hs⟩ : ∃ t, t = s.rounds k := ⟨_, rfl⟩
  rw [← hs]
  refine JC.cast (l' := (b0, isC 369 [w64 a, w64 b, w64 c, w64 d]) :: r) (by rfl) ?_
  refine AU0 ?_
  refine JC.drawn 12 rfl mixed ?_
  refine JDp 0 rfl y_mv ?_
  refine JDp 1 rfl (y_nilCheck rfl) ?_
  refine JDp 2 rfl (y_indexA (j := 0) rfl rfl (by omega)) ?_
  refine JDr 3 0 rfl rfl (r_load1 rfl rfl) ?_
  refine JDp 4 rfl y_mv ?_
  refine JDp 5 rfl (y_nilCheck rfl) ?_
  refine JDp 6 rfl (y_indexA (j := 1) rfl rfl (by omega)) ?_
  refine JDr 7 0 rfl rfl (r_load1 rfl rfl) ?_
  refine JDp 8 rfl (y_add64 rfl rfl) ?_
  refine JDp 9 rfl (y_nilCheck rfl) ?_
  refine JDp 10 rfl (y_indexA (j := 0) rfl rfl (by omega)) ?_
  refine JDe 11 rfl (e_store 0 rfl rfl (by conv => lhs; whnf) (vs := [w64 (a + b)]) rfl rfl rfl lE_ ⟨tok_, ?_⟩)
  refine JDd ?_
  refine RN.cast (l' := (b0, isC 369 [w64 (a + b), w64 b, w64 c, w64 d]) :: r) (by rfl) ?_
  repeat (first | refine JC.seq ?_ | refine JL.nil ?_ | refine RN.seq ?_ | refine RN.blk ?_ | refine JC.region ?_ | refine JC.skip ?_ | refine JC.block ?_ | refine JC.exit ?_ | refine JC.cond_t rfl ?_ | refine JC.cond_f rfl ?_)
  refine JC.drawn 14 rfl mixed ?_
  refine JDp 0 rfl y_mv ?_
  refine JDp 1 rfl y_mv ?_
  refine JDp 2 rfl (y_nilCheck rfl) ?_
  refine JDp 3 rfl (y_indexA (j := 1) rfl rfl (by omega)) ?_
  refine JDr 4 0 rfl rfl (r_load1 rfl rfl) ?_
  refine JDp 6 rfl y_mv ?_
  refine JDp 7 rfl (y_nilCheck rfl) ?_
  refine JDp 8 rfl (y_indexA (j := 0) rfl rfl (by omega)) ?_
  refine JDr 9 0 rfl rfl (r_load1 rfl rfl) ?_
  refine JDp 11 rfl (y_nilCheck rfl) ?_
  refine JDe 5 rfl (e_call rfl rfl (Rot_ok b 13 (by decide +kernel) (by decide) _ _) ?_)
  rintro v l' ⟨rfl, rfl⟩
  refine ⟨tok_, ?_⟩
  refine JDp 10 rfl (y_xor64 rfl rfl) ?_
  refine JDp 12 rfl (y_indexA (j := 1) rfl rfl (by omega)) ?_
  refine JDe 13 rfl (e_store 0 rfl rfl (by conv => lhs; whnf) (vs := [w64 (rot b 13 ^^^ (a + b))]) rfl rfl rfl lE_ ⟨tok_, ?_⟩)
  refine JDd ?_
  refine RN.cast (l' := (b0, isC 369 [w64 (a + b), w64 (rot b 13 ^^^ (a + b)), w64 c, w64 d]) :: r) (by rfl) ?_
  repeat (first | refine JC.seq ?_ | refine JL.nil ?_ | refine RN.seq ?_ | refine RN.blk ?_ | refine JC.region ?_ | refine JC.skip ?_ | refine JC.block ?_ | refine JC.exit ?_ | refine JC.cond_t rfl ?_ | refine JC.cond_f rfl ?_)
  refine JC.drawn 9 rfl mixed ?_
  refine JDp 0 rfl y_mv ?_
  refine JDp 1 rfl y_mv ?_
  refine JDp 2 rfl (y_nilCheck rfl) ?_
  refine JDp 3 rfl (y_indexA (j := 0) rfl rfl (by omega)) ?_
  refine JDr 4 0 rfl rfl (r_load1 rfl rfl) ?_
  refine JDp 6 rfl (y_nilCheck rfl) ?_
  refine JDe 5 rfl (e_call rfl rfl (Rot_ok (a + b) 32 (by decide +kernel) (by decide) _ _) ?_)
  rintro v l' ⟨rfl, rfl⟩
  refine ⟨tok_, ?_⟩
  refine JDp 7 rfl (y_indexA (j := 0) rfl rfl (by omega)) ?_
  refine JDe 8 rfl (e_store 0 rfl rfl (by conv => lhs; whnf) (vs := [w64 (rot (a + b) 32)]) rfl rfl rfl lE_ ⟨tok_, ?_⟩)
  refine JDd ?_
  refine RN.cast (l' := (b0, isC 369 [w64 (rot (a + b) 32), w64 (rot b 13 ^^^ (a + b)), w64 c, w64 d]) :: r) (by rfl) ?_
  repeat (first | refine JC.seq ?_ | refine JL.nil ?_ | refine RN.seq ?_ | refine RN.blk ?_ | refine JC.region ?_ | refine JC.skip ?_ | refine JC.block ?_ | refine JC.exit ?_ | refine JC.cond_t rfl ?_ | refine JC.cond_f rfl ?_)
  refine JC.drawn 12 rfl mixed ?_
  refine JDp 0 rfl y_mv ?_
  refine JDp 1 rfl (y_nilCheck rfl) ?_
  refine JDp 2 rfl (y_indexA (j := 2) rfl rfl (by omega)) ?_
  refine JDr 3 0 rfl rfl (r_load1 rfl rfl) ?_
  refine JDp 4 rfl y_mv ?_
  refine JDp 5 rfl (y_nilCheck rfl) ?_
  refine JDp 6 rfl (y_indexA (j := 3) rfl rfl (by omega)) ?_
  refine JDr 7 0 rfl rfl (r_load1 rfl rfl) ?_
  refine JDp 8 rfl (y_add64 rfl rfl) ?_
  refine JDp 9 rfl (y_nilCheck rfl) ?_
  refine JDp 10 rfl (y_indexA (j := 2) rfl rfl (by omega)) ?_
  refine JDe 11 rfl (e_store 0 rfl rfl (by conv => lhs; whnf) (vs := [w64 (c + d)]) rfl rfl rfl lE_ ⟨tok_, ?_⟩)
  refine JDd ?_
  refine RN.cast (l' := (b0, isC 369 [w64 (rot (a + b) 32), w64 (rot b 13 ^^^ (a + b)), w64 (c + d), w64 d]) :: r) (by rfl) ?_
  repeat (first | refine JC.seq ?_ | refine JL.nil ?_ | refine RN.seq ?_ | refine RN.blk ?_ | refine JC.region ?_ | refine JC.skip ?_ | refine JC.block ?_ | refine JC.exit ?_ | refine JC.cond_t rfl ?_ | refine JC.cond_f rfl ?_)
  refine JC.drawn 14 rfl mixed ?_
  refine JDp 0 rfl y_mv ?_
  refine JDp 1 rfl y_mv ?_
  refine JDp 2 rfl (y_nilCheck rfl) ?_
  refine JDp 3 rfl (y_indexA (j := 3) rfl rfl (by omega)) ?_
  refine JDr 4 0 rfl rfl (r_load1 rfl rfl) ?_
  refine JDp 6 rfl y_mv ?_
  refine JDp 7 rfl (y_nilCheck rfl) ?_
  refine JDp 8 rfl (y_indexA (j := 2) rfl rfl (by omega)) ?_
  refine JDr 9 0 rfl rfl (r_load1 rfl rfl) ?_
  refine JDp 11 rfl (y_nilCheck rfl) ?_
  refine JDe 5 rfl (e_call rfl rfl (Rot_ok d 16 (by decide +kernel) (by decide) _ _) ?_)
  rintro v l' ⟨rfl, rfl⟩
  refine ⟨tok_, ?_⟩
  refine JDp 10 rfl (y_xor64 rfl rfl) ?_
  refine JDp 12 rfl (y_indexA (j := 3) rfl rfl (by omega)) ?_
  refine JDe 13 rfl (e_store 0 rfl rfl (by conv => lhs; whnf) (vs := [w64 (rot d 16 ^^^ (c + d))]) rfl rfl rfl lE_ ⟨tok_, ?_⟩)
  refine JDd ?_
  refine RN.cast (l' := (b0, isC 369 [w64 (rot (a + b) 32), w64 (rot b 13 ^^^ (a + b)), w64 (c + d), w64 (rot d 16 ^^^ (c + d))]) :: r) (by rfl) ?_
  repeat (first | refine JC.seq ?_ | refine JL.nil ?_ | refine RN.seq ?_ | refine RN.blk ?_ | refine JC.region ?_ | refine JC.skip ?_ | refine JC.block ?_ | refine JC.exit ?_ | refine JC.cond_t rfl ?_ | refine JC.cond_f rfl ?_)
  refine JC.drawn 12 rfl mixed ?_
  refine JDp 0 rfl y_mv ?_
  refine JDp 1 rfl (y_nilCheck rfl) ?_
  refine JDp 2 rfl (y_indexA (j := 0) rfl rfl (by omega)) ?_
  refine JDr 3 0 rfl rfl (r_load1 rfl rfl) ?_
  refine JDp 4 rfl y_mv ?_
  refine JDp 5 rfl (y_nilCheck rfl) ?_
  refine JDp 6 rfl (y_indexA (j := 3) rfl rfl (by omega)) ?_
  refine JDr 7 0 rfl rfl (r_load1 rfl rfl) ?_
  refine JDp 8 rfl (y_add64 rfl rfl) ?_
  refine JDp 9 rfl (y_nilCheck rfl) ?_
  refine JDp 10 rfl (y_indexA (j := 0) rfl rfl (by omega)) ?_
  refine JDe 11 rfl (e_store 0 rfl rfl (by conv => lhs; whnf) (vs := [w64 ((rot (a + b) 32) + (rot d 16 ^^^ (c + d)))]) rfl rfl rfl lE_ ⟨tok_, ?_⟩)
  refine JDd ?_
  refine RN.cast (l' := (b0, isC 369 [w64 ((rot (a + b) 32) + (rot d 16 ^^^ (c + d))), w64 (rot b 13 ^^^ (a + b)), w64 (c + d), w64 (rot d 16 ^^^ (c + d))]) :: r) (by rfl) ?_
  repeat (first | refine JC.seq ?_ | refine JL.nil ?_ | refine RN.seq ?_ | refine RN.blk ?_ | refine JC.region ?_ | refine JC.skip ?_ | refine JC.block ?_ | refine JC.exit ?_ | refine JC.cond_t rfl ?_ | refine JC.cond_f rfl ?_)
  refine JC.drawn 14 rfl mixed ?_
  refine JDp 0 rfl y_mv ?_
  refine JDp 1 rfl y_mv ?_
  refine JDp 2 rfl (y_nilCheck rfl) ?_
  refine JDp 3 rfl (y_indexA (j := 3) rfl rfl (by omega)) ?_
  refine JDr 4 0 rfl rfl (r_load1 rfl rfl) ?_
  refine JDp 6 rfl y_mv ?_
  refine JDp 7 rfl (y_nilCheck rfl) ?_
  refine JDp 8 rfl (y_indexA (j := 0) rfl rfl (by omega)) ?_
  refine JDr 9 0 rfl rfl (r_load1 rfl rfl) ?_
  refine JDp 11 rfl (y_nilCheck rfl) ?_
  refine JDe 5 rfl (e_call rfl rfl (Rot_ok (rot d 16 ^^^ (c + d)) 21 (by decide +kernel) (by decide) _ _) ?_)
  rintro v l' ⟨rfl, rfl⟩
  refine ⟨tok_, ?_⟩
  refine JDp 10 rfl (y_xor64 rfl rfl) ?_
  refine JDp 12 rfl (y_indexA (j := 3) rfl rfl (by omega)) ?_
  refine JDe 13 rfl (e_store 0 rfl rfl (by conv => lhs; whnf) (vs := [w64 (rot (rot d 16 ^^^ (c + d)) 21 ^^^ ((rot (a + b) 32) + (rot d 16 ^^^ (c + d))))]) rfl rfl rfl lE_ ⟨tok_, ?_⟩)
  refine JDd ?_
  refine RN.cast (l' := (b0, isC 369 [w64 ((rot (a + b) 32) + (rot d 16 ^^^ (c + d))), w64 (rot b 13 ^^^ (a + b)), w64 (c + d), w64 (rot (rot d 16 ^^^ (c + d)) 21 ^^^ ((rot (a + b) 32) + (rot d 16 ^^^ (c + d))))]) :: r) (by rfl) ?_
  repeat (first | refine JC.seq ?_ | refine JL.nil ?_ | refine RN.seq ?_ | refine RN.blk ?_ | refine JC.region ?_ | refine JC.skip ?_ | refine JC.block ?_ | refine JC.exit ?_ | refine JC.cond_t rfl ?_ | refine JC.cond_f rfl ?_)
  refine JC.drawn 12 rfl mixed ?_
  refine JDp 0 rfl y_mv ?_
  refine JDp 1 rfl (y_nilCheck rfl) ?_
  refine JDp 2 rfl (y_indexA (j := 2) rfl rfl (by omega)) ?_
  refine JDr 3 0 rfl rfl (r_load1 rfl rfl) ?_
  refine JDp 4 rfl y_mv ?_
  refine JDp 5 rfl (y_nilCheck rfl) ?_
  refine JDp 6 rfl (y_indexA (j := 1) rfl rfl (by omega)) ?_
  refine JDr 7 0 rfl rfl (r_load1 rfl rfl) ?_
  refine JDp 8 rfl (y_add64 rfl rfl) ?_
  refine JDp 9 rfl (y_nilCheck rfl) ?_
  refine JDp 10 rfl (y_indexA (j := 2) rfl rfl (by omega)) ?_
  refine JDe 11 rfl (e_store 0 rfl rfl (by conv => lhs; whnf) (vs := [w64 ((c + d) + (rot b 13 ^^^ (a + b)))]) rfl rfl rfl lE_ ⟨tok_, ?_⟩)
  refine JDd ?_
  refine RN.cast (l' := (b0, isC 369 [w64 ((rot (a + b) 32) + (rot d 16 ^^^ (c + d))), w64 (rot b 13 ^^^ (a + b)), w64 ((c + d) + (rot b 13 ^^^ (a + b))), w64 (rot (rot d 16 ^^^ (c + d)) 21 ^^^ ((rot (a + b) 32) + (rot d 16 ^^^ (c + d))))]) :: r) (by rfl) ?_
  repeat (first | refine JC.seq ?_ | refine JL.nil ?_ | refine RN.seq ?_ | refine RN.blk ?_ | refine JC.region ?_ | refine JC.skip ?_ | refine JC.block ?_ | refine JC.exit ?_ | refine JC.cond_t rfl ?_ | refine JC.cond_f rfl ?_)
  refine JC.drawn 14 rfl mixed ?_
  refine JDp 0 rfl y_mv ?_
  refine JDp 1 rfl y_mv ?_
  refine JDp 2 rfl (y_nilCheck rfl) ?_
  refine JDp 3 rfl (y_indexA (j := 1) rfl rfl (by omega)) ?_
  refine JDr 4 0 rfl rfl (r_load1 rfl rfl) ?_
  refine JDp 6 rfl y_mv ?_
  refine JDp 7 rfl (y_nilCheck rfl) ?_
  refine JDp 8 rfl (y_indexA (j := 2) rfl rfl (by omega)) ?_
  refine JDr 9 0 rfl rfl (r_load1 rfl rfl) ?_
  refine JDp 11 rfl (y_nilCheck rfl) ?_
  refine JDe 5 rfl (e_call rfl rfl (Rot_ok (rot b 13 ^^^ (a + b)) 17 (by decide +kernel) (by decide) _ _) ?_)
  rintro v l' ⟨rfl, rfl⟩
  refine ⟨tok_, ?_⟩
  refine JDp 10 rfl (y_xor64 rfl rfl) ?_
  refine JDp 12 rfl (y_indexA (j := 1) rfl rfl (by omega)) ?_
  refine JDe 13 rfl (e_store 0 rfl rfl (by conv => lhs; whnf) (vs := [w64 (rot (rot b 13 ^^^ (a + b)) 17 ^^^ ((c + d) + (rot b 13 ^^^ (a + b))))]) rfl rfl rfl lE_ ⟨tok_, ?_⟩)
  refine JDd ?_
  refine RN.cast (l' := (b0, isC 369 [w64 ((rot (a + b) 32) + (rot d 16 ^^^ (c + d))), w64 (rot (rot b 13 ^^^ (a + b)) 17 ^^^ ((c + d) + (rot b 13 ^^^ (a + b)))), w64 ((c + d) + (rot b 13 ^^^ (a + b))), w64 (rot (rot d 16 ^^^ (c + d)) 21 ^^^ ((rot (a + b) 32) + (rot d 16 ^^^ (c + d))))]) :: r) (by rfl) ?_
  repeat (first | refine JC.seq ?_ | refine JL.nil ?_ | refine RN.seq ?_ | refine RN.blk ?_ | refine JC.region ?_ | refine JC.skip ?_ | refine JC.block ?_ | refine JC.exit ?_ | refine JC.cond_t rfl ?_ | refine JC.cond_f rfl ?_)
  refine JC.drawn 9 rfl mixed ?_
  refine JDp 0 rfl y_mv ?_
  refine JDp 1 rfl y_mv ?_
  refine JDp 2 rfl (y_nilCheck rfl) ?_
  refine JDp 3 rfl (y_indexA (j := 2) rfl rfl (by omega)) ?_
  refine JDr 4 0 rfl rfl (r_load1 rfl rfl) ?_
  refine JDp 6 rfl (y_nilCheck rfl) ?_
  refine JDe 5 rfl (e_call rfl rfl (Rot_ok ((c + d) + (rot b 13 ^^^ (a + b))) 32 (by decide +kernel) (by decide) _ _) ?_)
  rintro v l' ⟨rfl, rfl⟩
  refine ⟨tok_, ?_⟩
  refine JDp 7 rfl (y_indexA (j := 2) rfl rfl (by omega)) ?_
  refine JDe 8 rfl (e_store 0 rfl rfl (by conv => lhs; whnf) (vs := [w64 (rot ((c + d) + (rot b 13 ^^^ (a + b))) 32)]) rfl rfl rfl lE_ ⟨tok_, ?_⟩)
  refine JDd ?_
  refine RN.cast (l' := (b0, isC 369 [w64 ((rot (a + b) 32) + (rot d 16 ^^^ (c + d))), w64 (rot (rot b 13 ^^^ (a + b)) 17 ^^^ ((c + d) + (rot b 13 ^^^ (a + b)))), w64 (rot ((c + d) + (rot b 13 ^^^ (a + b))) 32), w64 (rot (rot d 16 ^^^ (c + d)) 21 ^^^ ((rot (a + b) 32) + (rot d 16 ^^^ (c + d))))]) :: r) (by rfl) ?_
  repeat (first | refine JC.seq ?_ | refine JL.nil ?_ | refine RN.seq ?_ | refine RN.blk ?_ | refine JC.region ?_ | refine JC.skip ?_ | refine JC.block ?_ | refine JC.exit ?_ | refine JC.cond_t rfl ?_ | refine JC.cond_f rfl ?_)
  refine AU0 ?_
  exact RN.loop (m' := m - 1) (by omega) ⟨k + 1, by omega, ⟨rfl, rfl, rfl, trivial⟩, by rw [S4.rounds, ← hs]; rfl⟩
 ·obtain rfl : n = k := by omega
  refine AU0 ?_
  exact RN.none rfl rfl
end Go.Proofs.YtbalcgjphkdecaaGreatDoor.Si
namespace Go.Proofs.YtbalcgjphkdecaaGreatDoor.Si
open Go.RowKit Go.Lg
set_option maxRecDepth 100000
attribute [local irreducible] JC JL JD RN RT Eff Yld YldIf Tr
theorem takes_ok (s : S4) (m : BitVec 64) (b0 : Nat) (W : World) (r : List Ent) : Tr Pg 238 #[ptr b0, w64 m] W ((b0, isC 369 s.cells) :: r) fun v l' => l' = (b0, isC 369 (s.take m).cells) :: r := by
 obtain ⟨a, b, c, d⟩ := s
 refine Tr.of_code (args := [_, _]) Tryz.func238 rfl Tryz.ntmps238 lE_ ?_
 refine JC.cast (l' := (b0, isC 369 [w64 a, w64 b, w64 c, w64 d]) :: r) (by rfl) ?_
 repeat (first | refine JC.seq ?_ | refine JL.nil ?_ | refine RN.seq ?_ | refine RN.blk ?_ | refine JC.region ?_ | refine JC.skip ?_ | refine JC.block ?_ | refine JC.exit ?_ | refine JC.cond_t rfl ?_ | refine JC.cond_f rfl ?_)
 refine JC.drawn 9 rfl mixed ?_
 refine JDp 0 rfl y_mv ?_
 refine JDp 1 rfl (y_nilCheck rfl) ?_
 refine JDp 2 rfl (y_indexA (j := 3) rfl rfl (by omega)) ?_
 refine JDr 3 0 rfl rfl (r_load1 rfl rfl) ?_
 refine JDp 4 rfl y_mv ?_
 refine JDp 5 rfl (y_xor64 rfl rfl) ?_
 refine JDp 6 rfl (y_nilCheck rfl) ?_
 refine JDp 7 rfl (y_indexA (j := 3) rfl rfl (by omega)) ?_
 refine JDe 8 rfl (e_store 0 rfl rfl (by conv => lhs; whnf) (vs := [w64 (d ^^^ m)]) rfl rfl rfl lE_ ⟨tok_, ?_⟩)
 refine JDd ?_
 refine RN.cast (l' := (b0, isC 369 (S4.cells ⟨a, b, c, d ^^^ m⟩)) :: r) (by rfl) ?_
 refine AU0 ?_
 refine JLs (e_call rfl rfl (rounds_ok ⟨a, b, c, d ^^^ m⟩ 2 b0 (by decide) W r) ?_)
 rintro v l' rfl
 obtain ⟨⟨a2, b2, c2, d2⟩, hs⟩ : ∃ t, t = S4.rounds ⟨a, b, c, d ^^^ m⟩ 2 := ⟨_, rfl⟩
 have e : S4.take ⟨a, b, c, d⟩ m = ⟨a2 ^^^ m, b2, c2, d2⟩ := by
  unfold S4.take
  rw [show S4.round (S4.round ⟨a, b, c, d ^^^ m⟩) = ⟨a2, b2, c2, d2⟩ from hs.symm]
 rw [← hs, e]
 refine JL.cast (l' := (b0, isC 369 [w64 a2, w64 b2, w64 c2, w64 d2]) :: r) (by rfl) ?_
 repeat (first | refine JC.seq ?_ | refine JL.nil ?_ | refine RN.seq ?_ | refine RN.blk ?_ | refine JC.region ?_ | refine JC.skip ?_ | refine JC.block ?_ | refine JC.exit ?_ | refine JC.cond_t rfl ?_ | refine JC.cond_f rfl ?_)
 refine JC.drawn 9 rfl mixed ?_
 refine JDp 0 rfl y_mv ?_
 refine JDp 1 rfl (y_nilCheck rfl) ?_
 refine JDp 2 rfl (y_indexA (j := 0) rfl rfl (by omega)) ?_
 refine JDr 3 0 rfl rfl (r_load1 rfl rfl) ?_
 refine JDp 4 rfl y_mv ?_
 refine JDp 5 rfl (y_xor64 rfl rfl) ?_
 refine JDp 6 rfl (y_nilCheck rfl) ?_
 refine JDp 7 rfl (y_indexA (j := 0) rfl rfl (by omega)) ?_
 refine JDe 8 rfl (e_store 0 rfl rfl (by conv => lhs; whnf) (vs := [w64 (a2 ^^^ m)]) rfl rfl rfl lE_ ⟨tok_, ?_⟩)
 refine JDd ?_
 exact RN.none rfl rfl
def num : List UInt8 → BitVec 64
 | [] => 0
 | b :: bs => (num bs <<< 8) ||| BitVec.ofNat 64 b.toNat
theorem num_step (b : UInt8) (bs : List UInt8) (i : Nat) : num (b :: bs) <<< (8 * i) = (BitVec.ofNat 64 b.toNat <<< (8 * i)) ||| (num bs <<< (8 * (i + 1))) := by
 rw [num, BitVec.shiftLeft_or_distrib, BitVec.or_comm, ← BitVec.shiftLeft_add, show 8 + 8 * i = 8 * (i + 1) from by omega]
theorem drop_cons {bs : List UInt8} {i : Nat} (h : i < bs.length) : bs.drop i = bs[i] :: bs.drop (i + 1) := List.drop_eq_getElem_cons h
set_option maxHeartbeats 1000000 in
theorem number_ok {A : Option Addr} {len cap : Nat} {bs : List UInt8} {W : World} {r : List Ent} (hl : bs.length = len) (h8 : len ≤ 8) (hs : Src W r A (bs.map bv)) :
  Tr Pg 237 #[.slice A len cap] W r fun v l' => v = w64 (num bs) ∧ l' = r := by
 refine Tr.of_code (args := [_]) Tryz.func237 rfl Tryz.ntmps237 lE_ ?_
 refine AU0 ?_
 refine JC.loop (fun m f l => ∃ i acc, i + m = len ∧ FrOk f [(3, w64 acc), (6, .slice A len cap), (7, .int .i64 (len : Int)), (8, .int .i64 (i : Int))] ∧ l = r ∧ acc ||| (num (bs.drop i) <<< (8 * i)) = num bs) len ?_ ?_
 ·exact ⟨0, 0, by omega, ⟨rfl, rfl, rfl, rfl, trivial⟩, rfl, by simp⟩
 rintro m f l ⟨i, acc, hm, hf, rfl, hacc⟩
 refine JC.frame _ hf fun f' => ?_
 by_cases hi : i < len
 ·have hi' : i < bs.length := by omega
  obtain ⟨b, o, rfl, hc⟩ := hs.at_ (by simp; omega)
  have hc' : ∀ w, SH W l w → w.cell? ⟨b, o + i * 1, none⟩ = some (bv (bs[i]'hi')) := fun w hw => by
   rw [Nat.mul_one]
   exact hc l (fun _ h => h) w hw i _ (by simp [List.getElem?_eq_getElem hi'])
  have hm8 : IntKind.i64.wrap ((8 : Int) * (i : Int)) = ((8 * i : Nat) : Int) := by
   rw [wrap_add (by omega) (by omega)]; omega
  refine AU0 ?_
  refine JLs (e_loadS rfl hc' ?_)
  repeat (first | refine JLp (y_conv64 rfl) ?_ | refine JLp (y_mul rfl rfl hm8) ?_ | refine JLp (y_shl64 rfl rfl (by omega)) ?_ | refine JLp (y_or64 rfl rfl) ?_ | refine AS0 ?_)
  refine RN.loop (m' := m - 1) (by omega) ⟨i + 1, _, by omega, ⟨rfl, rfl, rfl, rfl, trivial⟩, rfl, ?_⟩
  rw [← hacc, drop_cons hi', num_step, BitVec.or_assoc]
 ·obtain rfl : len = i := by omega
  have : acc = num bs := by
   rw [← hacc, List.drop_of_length_le (by omega)]
   simp [num]
  subst this
  refine AU0 ?_
  exact JC.ret (RT.one rfl rfl rfl ⟨rfl, rfl⟩)
end Go.Proofs.YtbalcgjphkdecaaGreatDoor.Si

namespace Go.Proofs.YtbalcgjphkdecaaGreatDoor.Si
open Go.RowKit Go.Lg
set_option maxRecDepth 100000
attribute [local irreducible] JC JL JD RN RT Eff Yld YldIf Tr
def S4.eat : Nat → S4 → List UInt8 → S4 × List UInt8
 | 0, s, bs => (s, bs)
 | n + 1, s, bs => if 8 ≤ bs.length then S4.eat n (s.take (num (bs.take 8))) (bs.drop 8) else (s, bs)
theorem eat_short {n : Nat} {s : S4} {bs : List UInt8} (h : bs.length < 8) : S4.eat n s bs = (s, bs) := by
 cases n with
 | zero => rfl
 | succ n => rw [S4.eat, if_neg (by omega)]
theorem eat_fuel : ∀ (n m : Nat) (s : S4) (bs : List UInt8), bs.length ≤ n → bs.length ≤ m → S4.eat n s bs = S4.eat m s bs
 | 0, m, s, bs, h1, _ => by rw [eat_short (by omega), eat_short (by omega)]
 | n + 1, 0, s, bs, _, h2 => by rw [eat_short (by omega), eat_short (by omega)]
 | n + 1, m + 1, s, bs, h1, h2 => by
  by_cases h : 8 ≤ bs.length
  ·rw [S4.eat, if_pos h, S4.eat, if_pos h]
   exact eat_fuel n m _ _ (by rw [List.length_drop]; omega) (by rw [List.length_drop]; omega)
  ·rw [eat_short (by omega), eat_short (by omega)]
theorem eat_step (s : S4) (bs : List UInt8) (h : 8 ≤ bs.length) : S4.eat bs.length s bs = S4.eat (bs.drop 8).length (s.take (num (bs.take 8))) (bs.drop 8) := by
 obtain ⟨n, hn⟩ : ∃ n, bs.length = n + 1 := ⟨bs.length - 1, by omega⟩
 rw [hn, S4.eat, if_pos h]
 exact eat_fuel _ _ _ _ (by rw [List.length_drop]; omega) (by omega)
def start (ks : List UInt8) : S4 := ⟨8317987319222330741#64 ^^^ num (ks.take 8), 7237128888997146477#64 ^^^ num (ks.drop 8), 7816392313619706465#64 ^^^ num (ks.take 8), 8387220255154660723#64 ^^^ num (ks.drop 8)⟩
def lastOf (n : Nat) : BitVec 64 := BitVec.ofNat 64 (UInt8.ofNat n).toNat <<< 56
def S4.fin (s : S4) : BitVec 64 :=
 let t := S4.rounds ⟨s.a, s.b, s.c ^^^ 255#64, s.d⟩ 4
 t.a ^^^ t.b ^^^ t.c ^^^ t.d
def sipOf (ks bs : List UInt8) : BitVec 64 :=
 let e := S4.eat bs.length (start ks) bs
 (e.1.take (lastOf bs.length ||| num e.2)).fin
set_option maxRecDepth 100000 in
set_option maxHeartbeats 4000000 in
theorem Sum_ok {ks : List UInt8} (hk : ks.length = 16) {A : Option Addr} {n c : Nat} {bss : List (List UInt8)} {W : World} {r : List Ent} (hn : bss.length = n) (hn63 : n ≤ maxLen) (hr : RowsAt W r A bss) (htot : bss.flatten.length ≤ 70368744177664) :
  Tr Pg 205 #[.agg (ks.map bv).toArray, .slice A n c] W r fun v l' => v = w64 (sipOf ks bss.flatten) ∧ l' = r := by
 refine Tr.of_code (args := [_, _]) Tryz.func205 rfl Tryz.ntmps205 lE_ ?_
 refine AU0 ?_
 refine JLs (e_box (cs := ks.map bv) rfl rfl fun b2 => ?_)
 refine AU0 ?_
 have hsrc : Src W ((b2, isC 98 (ks.map bv)) :: r) (some ⟨b2, 0, none⟩) (ks.map bv) := Src.cells (List.mem_cons_self ..) 0 (by simp)
 refine JC.drawn 6 rfl mixed ?_
 refine JDp 0 rfl (y_sliceA (p := 0) (q := 8) rfl rfl ⟨_, rfl⟩ (by decide) (by decide) (by decide)) ?_
 refine JDp 2 rfl (y_sliceA (p := 8) (q := 16) rfl ⟨_, rfl⟩ rfl (by decide) (by decide) (by decide)) ?_
 refine JDe 1 rfl (e_call rfl rfl (number_ok (bs := ks.take 8) (by simp [hk]) (by decide) (by rw [List.map_take]; exact (hsrc.drop 0).take 8)) ?_)
 rintro v l' ⟨rfl, rfl⟩
 refine ⟨tok_, ?_⟩
 refine JDe 3 rfl (e_call rfl rfl (number_ok (bs := ks.drop 8) (by simp [hk]) (by decide) (by rw [List.map_drop]; exact hsrc.drop 8)) ?_)
 rintro v l' ⟨rfl, rfl⟩
 refine ⟨tok_, ?_⟩
 refine JDp 4 rfl y_as ?_
 refine JDp 5 rfl y_as ?_
 refine JDd ?_
 repeat (first | refine JLp (y_xor64 (a := 8317987319222330741#64) rfl rfl) ?_ | refine JLp (y_xor64 (a := 7237128888997146477#64) rfl rfl) ?_ | refine JLp (y_xor64 (a := 7816392313619706465#64) rfl rfl) ?_ | refine JLp (y_xor64 (a := 8387220255154660723#64) rfl rfl) ?_ | refine JLp (y_build (cells := (start ks).cells.toArray) rfl) ?_ | refine AS0 ?_)
 refine JLs (e_box (cs := (start ks).cells) rfl rfl fun b7 => ?_)
 refine AU0 ?_
 refine JLs (e_call rfl rfl (Concat_ok hn hn63 (hr.mono fun e he => by simp [he]) htot) ?_)
 rintro v l' ⟨le, ho, rfl⟩
 obtain ⟨Ap, cp, rfl, hsp, hcp⟩ := ho.src (W := W)
 generalize bss.flatten = bs at *
 repeat (first | refine JLp (y_conv8 rfl) ?_ | refine JLp (y_conv64 rfl) ?_ | refine JLp (y_shl64 (n := 56) rfl rfl (by decide)) ?_ | refine AS0 ?_)
 refine JC.perm (l' := (b7, isC 369 (start ks).cells) :: (le ++ ((b2, isC 98 (ks.map bv)) :: r))) (by classical exact List.perm_middle) ?_
 refine JC.loop (fun m f l => ∃ s rest A' c', rest.length = m ∧ FrOk f [(7, ptr b7), (8, .slice A' rest.length c'), (9, w64 (lastOf bs.length))] ∧ l = (b7, isC 369 (S4.cells s)) :: (le ++ ((b2, isC 98 (ks.map bv)) :: r)) ∧ Src W le A' (rest.map bv) ∧ rest.length ≤ c' ∧ S4.eat rest.length s rest = S4.eat bs.length (start ks) bs) bs.length ?_ ?_
 ·exact ⟨_, bs, Ap, cp, rfl, ⟨rfl, rfl, rfl, trivial⟩, rfl, hsp, hcp, rfl⟩
 rintro m f l ⟨s, rest, A', c', hm, hf, rfl, hsr, hcr, heat⟩
 refine JC.frame _ hf fun f' => ?_
 by_cases h8 : 8 ≤ rest.length
 ·obtain ⟨g, o, rfl, -⟩ := hsr.at_ (by simp; omega)
  repeat (first | refine JLp (y_sliceTo (h := 8) rfl rfl (by omega)) ?_ | refine AS0 ?_)
  refine JLs (e_call rfl rfl (number_ok (bs := rest.take 8) (by simp; omega) (by decide) (by rw [List.map_take]; exact ((hsr.take 8).mono fun e he => by simp [he]))) ?_)
  rintro v l' ⟨rfl, rfl⟩
  refine AU0 ?_
  refine JLs (e_call rfl rfl (takes_ok s (num (rest.take 8)) b7 W _) ?_)
  rintro v l' rfl
  repeat (first | refine JLp (y_sliceFrom (l := 8) rfl rfl (by omega) (by omega)) ?_ | refine AS0 ?_)
  refine RN.loop (m' := (rest.drop 8).length) (by rw [List.length_drop]; omega) ⟨s.take (num (rest.take 8)), rest.drop 8, if c' = 8 then some ⟨g, o, none⟩ else some ⟨g, o + 8 * 1, none⟩, c' - 8, rfl, ⟨rfl, by rw [List.length_drop]; rfl, rfl, trivial⟩, rfl, ?_, by rw [List.length_drop]; omega, ?_⟩
  ·rw [List.map_drop]
   exact hsr.from_ (by simpa using hcr) 8
  ·rw [← heat, eat_step s rest h8]
 ·have he : S4.eat bs.length (start ks) bs = (s, rest) := by rw [← heat, eat_short (by omega)]
  have hv : sipOf ks bs = (s.take (lastOf bs.length ||| num rest)).fin := by unfold sipOf; rw [he]
  rw [hv]
  refine AU0 ?_
  refine JLs (e_call rfl rfl (number_ok (bs := rest) rfl (by omega) (hsr.mono fun e he => by simp [he])) ?_)
  rintro v l' ⟨rfl, rfl⟩
  repeat (first | refine JLp (y_or64 rfl rfl) ?_ | refine AS0 ?_)
  refine JLs (e_call rfl rfl (takes_ok s (lastOf bs.length ||| num rest) b7 W _) ?_)
  rintro v l' rfl
  obtain ⟨⟨a, b, c, d⟩, hs⟩ : ∃ t, t = s.take (lastOf bs.length ||| num rest) := ⟨_, rfl⟩
  rw [← hs]
  refine JL.cast (l' := (b7, isC 369 [w64 a, w64 b, w64 c, w64 d]) :: (le ++ ((b2, isC 98 (ks.map bv)) :: r))) (by rfl) ?_
  repeat (first | refine JC.seq ?_ | refine JL.nil ?_ | refine RN.seq ?_ | refine RN.blk ?_ | refine JC.region ?_ | refine JC.skip ?_ | refine JC.block ?_ | refine JC.exit ?_ | refine JC.cond_t rfl ?_ | refine JC.cond_f rfl ?_)
  refine JC.drawn 8 rfl mixed ?_
  refine JDp 0 rfl y_mv ?_
  refine JDp 1 rfl (y_nilCheck rfl) ?_
  refine JDp 2 rfl (y_indexA (j := 2) rfl rfl (by omega)) ?_
  refine JDr 3 0 rfl rfl (r_load1 rfl rfl) ?_
  refine JDp 4 rfl (y_xor64 (b := 255#64) rfl rfl) ?_
  refine JDp 5 rfl (y_nilCheck rfl) ?_
  refine JDp 6 rfl (y_indexA (j := 2) rfl rfl (by omega)) ?_
  refine JDe 7 rfl (e_store 0 rfl rfl (by conv => lhs; whnf) (vs := [w64 (c ^^^ 255#64)]) rfl rfl rfl lE_ ⟨tok_, ?_⟩)
  refine JDd ?_
  refine RN.cast (l' := (b7, isC 369 (S4.cells ⟨a, b, c ^^^ 255#64, d⟩)) :: (le ++ ((b2, isC 98 (ks.map bv)) :: r))) (by rfl) ?_
  refine AU0 ?_
  refine JLs (e_call rfl rfl (rounds_ok ⟨a, b, c ^^^ 255#64, d⟩ 4 b7 (by decide) W _) ?_)
  rintro v l' rfl
  have hfin : S4.fin ⟨a, b, c, d⟩ = (S4.rounds ⟨a, b, c ^^^ 255#64, d⟩ 4).a ^^^ (S4.rounds ⟨a, b, c ^^^ 255#64, d⟩ 4).b ^^^ (S4.rounds ⟨a, b, c ^^^ 255#64, d⟩ 4).c ^^^ (S4.rounds ⟨a, b, c ^^^ 255#64, d⟩ 4).d := rfl
  rw [hfin]
  generalize S4.rounds ⟨a, b, c ^^^ 255#64, d⟩ 4 = t
  obtain ⟨a2, b2', c2, d2⟩ := t
  refine JL.cast (l' := (b7, isC 369 [w64 a2, w64 b2', w64 c2, w64 d2]) :: (le ++ ((b2, isC 98 (ks.map bv)) :: r))) (by rfl) ?_
  repeat (first | refine JC.seq ?_ | refine JL.nil ?_ | refine RN.seq ?_ | refine RN.blk ?_ | refine JC.region ?_ | refine JC.skip ?_ | refine JC.block ?_ | refine JC.exit ?_ | refine JC.cond_t rfl ?_ | refine JC.cond_f rfl ?_)
  refine JC.drawn 20 rfl mixed ?_
  refine JDp 0 rfl y_mv ?_
  refine JDp 1 rfl (y_nilCheck rfl) ?_
  refine JDp 2 rfl (y_indexA (j := 0) rfl rfl (by omega)) ?_
  refine JDr 3 0 rfl rfl (r_load1 rfl rfl) ?_
  refine JDp 4 rfl y_mv ?_
  refine JDp 5 rfl (y_nilCheck rfl) ?_
  refine JDp 6 rfl (y_indexA (j := 1) rfl rfl (by omega)) ?_
  refine JDr 7 0 rfl rfl (r_load1 rfl rfl) ?_
  refine JDp 8 rfl (y_xor64 rfl rfl) ?_
  refine JDp 9 rfl y_mv ?_
  refine JDp 10 rfl (y_nilCheck rfl) ?_
  refine JDp 11 rfl (y_indexA (j := 2) rfl rfl (by omega)) ?_
  refine JDr 12 0 rfl rfl (r_load1 rfl rfl) ?_
  refine JDp 13 rfl (y_xor64 rfl rfl) ?_
  refine JDp 14 rfl y_mv ?_
  refine JDp 15 rfl (y_nilCheck rfl) ?_
  refine JDp 16 rfl (y_indexA (j := 3) rfl rfl (by omega)) ?_
  refine JDr 17 0 rfl rfl (r_load1 rfl rfl) ?_
  refine JDp 18 rfl (y_xor64 rfl rfl) ?_
  refine JDp 19 rfl y_as ?_
  refine JDd ?_
  refine AU0 ?_
  refine JC.sub (l' := r) (List.Sublist.cons _ ((List.sublist_cons_self _ _).trans (List.sublist_append_right _ _))) ?_
  exact JC.ret (RT.one rfl rfl rfl ⟨rfl, rfl⟩)
end Go.Proofs.YtbalcgjphkdecaaGreatDoor.Si


namespace Go.Proofs.YtbalcgjphkdecaaGreatDoor.Se
open Go.RowKit Go.Lg
set_option maxRecDepth 100000
attribute [local irreducible] JC JL JD RN RT Eff Yld YldIf Tr
def ptr (b : Nat) : Value := .pointer (some ⟨b, 0, none⟩)
theorem isUse_ok (u : Int) {W : World} {r : List Ent} : Tr Pg 149 #[.int .i64 u] W r fun v l' => v = .bool (decide (0 ≤ u ∧ u ≤ 255)) ∧ l' = r := by
 refine Tr.of_code (args := [_]) Tryz.func149 rfl Tryz.ntmps149 lE_ ?_
 by_cases h0 : 0 ≤ u
 ·by_cases h1 : u ≤ 255
  ·rw [show decide (0 ≤ u ∧ u ≤ 255) = true from decide_eq_true ⟨h0, h1⟩]
   refine AU0 ?_
   exact JC.ret (RT.one rfl rfl rfl ⟨rfl, rfl⟩)
  ·rw [show decide (0 ≤ u ∧ u ≤ 255) = false from decide_eq_false fun h => h1 h.2]
   refine AU0 ?_
   exact JC.ret (RT.one rfl rfl rfl ⟨rfl, rfl⟩)
 ·rw [show decide (0 ≤ u ∧ u ≤ 255) = false from decide_eq_false fun h => h0 h.1]
  refine AU0 ?_
  exact JC.ret (RT.one rfl rfl rfl ⟨rfl, rfl⟩)
section
variable {W : World} {l : List Ent} {b o T : Nat} {cs : List Value}
theorem load64_X {x : Int} (i : Nat) (he : l[i]? = some (b, isC T cs)) (hx : nth cs o = some (.int .i64 x)) : ∀ w, SH W l w → ∃ w', (callFunc 159 #[.pointer (some ⟨b, o, none⟩)]).run Pg w = .ok (.value (.int .i64 x)) w' ∧ SH W l w' :=
 fun w hw => ⟨w, run_call_load (P := Pg) Tryz.func159 (by kernel_rfl) (by kernel_rfl) (by kernel_rfl) .i64 (by kernel_rfl) (hw.cellv i he hx undef).1, hw⟩
theorem add64_X {x y s : Int} (hs : ∀ w, (Op.intArith .add .i64 x y).run Pg w = .ok (.int .i64 s) w) (i : Nat) (he : l[i]? = some (b, isC T cs)) (hx : nth cs o = some (.int .i64 x)) : ∀ w, SH W l w → ∃ w', (callFunc 113 #[.pointer (some ⟨b, o, none⟩), .int .i64 y]).run Pg w = .ok (.value (.int .i64 s)) w' ∧ SH W (l.set i (b, isC T (spl cs o [.int .i64 s]))) w' :=
 fun w hw => ⟨_, run_call_add (P := Pg) Tryz.func113 (by kernel_rfl) (by kernel_rfl) (by kernel_rfl) .i64 (by kernel_rfl) (hw.cellv i he hx undef).1 (hw.cellv i he hx undef).2.1 (hs w), (hw.cellv i he hx _).2.2⟩
theorem Load64_ok {x : Int} (i : Nat) (he : l[i]? = some (b, isC T cs)) (hx : nth cs o = some (.int .i64 x)) : Tr Pg 125 #[.pointer (some ⟨b, o, none⟩)] W l fun v l' => v = .int .i64 x ∧ l' = l := by
 refine Tr.of_code (args := [_]) Tryz.func125 rfl Tryz.ntmps125 lE_ ?_
 refine AU0 ?_
 refine JLs (e_callX (vs := [.pointer (some ⟨b, o, none⟩)]) rfl rfl (load64_X i he hx) ?_)
 refine AU0 ?_
 exact JC.ret (RT.one rfl rfl rfl ⟨rfl, rfl⟩)
def inc (x : Int) : Int := IntKind.i64.wrap (x + 1)
theorem Add64_ok {x : Int} (i : Nat) (he : l[i]? = some (b, isC T cs)) (hx : nth cs o = some (.int .i64 x)) : Tr Pg 78 #[.pointer (some ⟨b, o, none⟩), .int .i64 1] W l fun v l' => v = .int .i64 (inc x) ∧ l' = l.set i (b, isC T (spl cs o [.int .i64 (inc x)])) := by
 have hs : ∀ w, (Op.intArith .add .i64 x 1).run Pg w = .ok (.int .i64 (inc x)) w := fun w => by
  simp [Op.intArith, inc]
 refine Tr.of_code (args := [_, _]) Tryz.func78 rfl Tryz.ntmps78 lE_ ?_
 refine AU0 ?_
 refine JLs (e_callX (vs := [.pointer (some ⟨b, o, none⟩), .int .i64 1]) rfl rfl (add64_X hs i he hx) ?_)
 refine AU0 ?_
 exact JC.ret (RT.one rfl rfl rfl ⟨rfl, rfl⟩)
end
def byteAt (n : BitVec 64) (j : Nat) : UInt8 := UInt8.ofNat (n >>> (8 * j)).toNat
def bigB (n : BitVec 64) : List UInt8 := [byteAt n 7, byteAt n 6, byteAt n 5, byteAt n 4, byteAt n 3, byteAt n 2, byteAt n 1, byteAt n 0]
def bigP (n : BitVec 64) (i : Nat) : List UInt8 := List.replicate (8 - i) 0 ++ (bigB n).drop (8 - i)
theorem bigP_step (n : BitVec 64) {i : Nat} (h : i < 8) : ((bigP n i).map bv).take (0 + (7 - i) * 1) ++ (bv (byteAt n i)).cells.toList ++ ((bigP n i).map bv).drop (0 + (7 - i) * 1 + 1) = (bigP n (i + 1)).map bv := by
 match i, h with
 | 0, _ => rfl
 | 1, _ => rfl
 | 2, _ => rfl
 | 3, _ => rfl
 | 4, _ => rfl
 | 5, _ => rfl
 | 6, _ => rfl
 | 7, _ => rfl
theorem bigP_len (n : BitVec 64) {i : Nat} (h : i ≤ 8) : (bigP n i).length = 8 := by simp [bigP, bigB]
theorem bv_all (b : UInt8) : (bv b).cells.all (·.oneCell') = true := by
 show (#[bv b] : Array Value).all (·.oneCell') = true
 simp
 rfl
set_option maxHeartbeats 1000000 in
theorem bytes_ok (n : BitVec 64) {W : World} {r : List Ent} : Tr Pg 150 #[w64 n] W r fun v l' => ∃ le, Lg.Own 5 1 v 8 ((bigB n).map bv) le ∧ l' = le ++ r := by
 refine Tr.of_code (args := [_]) Tryz.func150 rfl Tryz.ntmps150 lE_ ?_
 refine AU0 ?_
 refine JLs (e_make (n := 8) rfl rfl (by decide) (by decide) fun b => ?_)
 refine JL.cast (l' := (b, isR 5 (8 * 1) ((bigP n 0).map bv)) :: r) (by rfl) ?_
 refine AU0 ?_
 refine JC.loop (fun m f l => ∃ i, i + m = 8 ∧ FrOk f [(0, w64 n), (3, .slice (some ⟨b, 0, none⟩) 8 8), (7, .int .i64 ((8 : Nat) : Int)), (8, .int .i64 (i : Int))] ∧ l = (b, isR 5 (8 * 1) ((bigP n i).map bv)) :: r) 8 ?_ ?_
 ·exact ⟨0, by omega, ⟨rfl, rfl, rfl, rfl, trivial⟩, rfl⟩
 rintro m f l ⟨i, hm, hf, rfl⟩
 refine JC.frame _ hf fun f' => ?_
 by_cases hi : i < 8
 ·have hm8 : IntKind.i64.wrap ((8 : Int) * (i : Int)) = ((8 * i : Nat) : Int) := by rw [wrap_add (by omega) (by omega)]; omega
  have h7 : IntKind.i64.wrap ((7 : Int) - (i : Int)) = ((7 - i : Nat) : Int) := by rw [wrap_add (by omega) (by omega)]; omega
  repeat (first | refine JLp (y_sub rfl rfl h7) ?_ | refine JLp (y_mul rfl rfl hm8) ?_ | refine JLp (y_shr64 (n := 8 * i) rfl rfl (by omega)) ?_ | refine JLp (y_conv8 rfl) ?_ | refine JLp (y_index (j := 7 - i) rfl rfl (by omega)) ?_ | refine AS0 ?_)
  refine JLs (e_storeR 0 rfl (v := bv (byteAt n i)) rfl rfl rfl (bv_all _) (by rw [List.length_map, bigP_len n (by omega)]; show 0 + (7 - i) * 1 + 1 ≤ 8; omega) ?_)
  refine JL.cast (l' := (b, isR 5 (8 * 1) ((bigP n (i + 1)).map bv)) :: r) (by rw [← bigP_step n hi]; rfl) ?_
  refine AU0 ?_
  exact RN.loop (m' := m - 1) (by omega) ⟨i + 1, by omega, ⟨rfl, rfl, rfl, rfl, trivial⟩, rfl⟩
 ·obtain rfl : i = 8 := by omega
  refine AU0 ?_
  exact JC.ret (RT.one rfl rfl rfl ⟨[_], ⟨rfl, .inr ⟨b, 8, rfl, by decide, by decide, rfl⟩⟩, rfl⟩)
def numS (r : BitVec 64) (b : UInt8) : BitVec 64 := (r <<< 8) ||| BitVec.ofNat 64 b.toNat
def numB (bs : List UInt8) : BitVec 64 := bs.foldl numS 0
theorem add_or (r : BitVec 64) (b : UInt8) : (r <<< 8) + BitVec.ofNat 64 b.toNat = numS r b := by
 unfold numS
 refine BitVec.add_eq_or_of_and_eq_zero _ _ ?_
 apply BitVec.eq_of_getLsbD_eq
 intro i hi
 have hb : b.toNat < 256 := b.toNat_lt
 simp only [BitVec.getLsbD_and, BitVec.getLsbD_shiftLeft, BitVec.getLsbD_ofNat, BitVec.getLsbD_zero]
 by_cases h : i < 8
 ·simp [h]
 ·have : b.toNat.testBit i = false := Nat.testBit_lt_two_pow (Nat.lt_of_lt_of_le hb (Nat.pow_le_pow_right (n := 2) (by decide) (show 8 ≤ i by omega)))
  simp [this]
theorem numB_step {bs : List UInt8} {i : Nat} (h : i < bs.length) : numS (numB (bs.take i)) (bs[i]'h) = numB (bs.take (i + 1)) := by
 unfold numB
 rw [List.take_succ_eq_append_getElem h, List.foldl_append]
 rfl
set_option maxHeartbeats 1000000 in
theorem number_ok {A : Option Addr} {len cap : Nat} {bs : List UInt8} {W : World} {r : List Ent} (hl : bs.length = len) (h8 : len ≤ 8) (hs : Src W r A (bs.map bv)) :
  Tr Pg 174 #[.slice A len cap] W r fun v l' => v = w64 (numB bs) ∧ l' = r := by
 refine Tr.of_code (args := [_]) Tryz.func174 rfl Tryz.ntmps174 lE_ ?_
 refine AU0 ?_
 refine JC.loop (fun m f l => ∃ i, i + m = len ∧ FrOk f [(3, w64 (numB (bs.take i))), (6, .slice A len cap), (7, .int .i64 (len : Int)), (8, .int .i64 (i : Int))] ∧ l = r) len ?_ ?_
 ·exact ⟨0, by omega, ⟨rfl, rfl, rfl, rfl, trivial⟩, rfl⟩
 rintro m f l ⟨i, hm, hf, rfl⟩
 refine JC.frame _ hf fun f' => ?_
 by_cases hi : i < len
 ·have hi' : i < bs.length := by omega
  obtain ⟨b, o, rfl, hc⟩ := hs.at_ (by simp; omega)
  refine AU0 ?_
  refine JLs (e_loadS (u := bv (bs[i]'hi')) rfl (fun w hw => by rw [Nat.mul_one]; exact hc l (fun _ h => h) w hw i _ (by simp [List.getElem?_eq_getElem hi'])) ?_)
  repeat (first | refine JLp (y_conv64 rfl) ?_ | refine JLp (y_shl64 (n := 8) rfl rfl (by omega)) ?_ | refine JLp (y_add64 rfl rfl) ?_ | refine AS0 ?_)
  exact RN.loop (m' := m - 1) (by omega) ⟨i + 1, by omega, ⟨by rw [← numB_step hi', ← add_or]; rfl, rfl, rfl, rfl, trivial⟩, rfl⟩
 ·obtain rfl : len = i := by omega
  rw [List.take_of_length_le (by omega)]
  refine AU0 ?_
  exact JC.ret (RT.one rfl rfl rfl ⟨rfl, rfl⟩)
end Go.Proofs.YtbalcgjphkdecaaGreatDoor.Se
namespace Go.Proofs.YtbalcgjphkdecaaGreatDoor.Se
open Go.RowKit Go.Lg
set_option maxRecDepth 100000
attribute [local irreducible] JC JL JD RN RT Eff Yld YldIf Tr Sp.stm Sp.strm Sp.words
def BC (kb : Nat) (kk : List UInt8) (s o q : Int) : List Value := ptr kb :: ((kk.drop 16).map bv ++ [.int .i64 s, .int .i64 o, .int .i64 q])
section
variable {kb : Nat} {kk : List UInt8} {s o q : Int}
theorem BC_len (hk : kk.length = 32) : (BC kb kk s o q).length = 20 := by simp [BC, hk]
theorem BC_key (hk : kk.length = 32) : seg (BC kb kk s o q) (0 + 1) 16 = (kk.drop 16).map bv := by
 unfold seg BC
 show ((kk.drop 16).map bv ++ _).take 16 = _
 rw [List.take_append_of_le_length (by simp [hk]), List.take_of_length_le (by simp [hk])]
theorem BC_s (hk : kk.length = 32) : nth (BC kb kk s o q) 17 = some (.int .i64 s) := by
 rw [nth_eq]; unfold BC; rw [List.getElem?_cons_succ, List.getElem?_append_right (by simp [hk])]; simp [hk]
theorem BC_o (hk : kk.length = 32) : nth (BC kb kk s o q) 18 = some (.int .i64 o) := by
 rw [nth_eq]; unfold BC; rw [List.getElem?_cons_succ, List.getElem?_append_right (by simp [hk])]; simp [hk]
theorem BC_q (hk : kk.length = 32) : nth (BC kb kk s o q) 19 = some (.int .i64 q) := by
 rw [nth_eq]; unfold BC; rw [List.getElem?_cons_succ, List.getElem?_append_right (by simp [hk])]; simp [hk]
theorem BC_set_s (hk : kk.length = 32) (x : Int) : spl (BC kb kk s o q) 17 [.int .i64 x] = BC kb kk x o q := by
 rw [spl_one]; unfold BC; rw [List.set_cons_succ, List.set_append_right _ _ (by simp [hk])]; simp [hk]
theorem BC_set_o (hk : kk.length = 32) (x : Int) : spl (BC kb kk s o q) 18 [.int .i64 x] = BC kb kk s x q := by
 rw [spl_one]; unfold BC; rw [List.set_cons_succ, List.set_append_right _ _ (by simp [hk])]; simp [hk]
theorem BC_set_q (hk : kk.length = 32) (x : Int) : spl (BC kb kk s o q) 19 [.int .i64 x] = BC kb kk s o x := by
 rw [spl_one]; unfold BC; rw [List.set_cons_succ, List.set_append_right _ _ (by simp [hk])]; simp [hk]
end
theorem own_some {e : TypeId} {sz : Nat} {v : Value} {n : Nat} {xs : List Value} {le : List Ent} (h : Lg.Own e sz v n xs le) (h0 : 0 < n) : ∃ g cap, v = .slice (some ⟨g, 0, none⟩) n cap ∧ n ≤ cap ∧ cap ≤ maxLen ∧ le = [(g, isR e (cap * sz) xs)] := by
 rcases h.2 with ⟨_, h1, _⟩ | h1
 ·omega
 ·exact h1
theorem Stream_any {ks : List UInt8} (hk : ks.length = 16) {kb : Nat} (m0 : Bool) (nc : BitVec 64) (N : Nat) (hn : N ≤ 35184372088832) {W : World} {r : List Ent} :
  Tr Pg 79 #[ptr kb, w64 nc, .int .i64 (N : Int)] W ((kb, isC 161 (Sp.kst ks m0)) :: r) fun v l' => ∃ le mm, Lg.Own 5 1 v N ((Sp.stm (Sp.words ks) nc N).map bv) le ∧ l' = le ++ ((kb, isC 161 (Sp.kst ks mm)) :: r) := by
 by_cases h : N < 1
 ·refine (Sp.Stream_none (.inr ⟨kb, rfl, by omega⟩)).mono ?_
  rintro v l' ⟨rfl, rfl⟩
  obtain rfl : N = 0 := by omega
  have h1 : Sp.stm (Sp.words ks) nc 0 = [] := List.eq_nil_of_length_eq_zero (Sp.stm_len _ _ _)
  rw [h1]
  exact ⟨[], m0, Lg.Own.nil .., rfl⟩
 ·refine (Sp.Stream_ok hk m0 nc N (by omega) hn).mono ?_
  rintro v l' ⟨le, ho, rfl⟩
  exact ⟨le, true, ho, rfl⟩
def xorB (a b : List UInt8) : List UInt8 := List.zipWith (· ^^^ ·) a b
def strB (kk : List UInt8) (u : Nat) (nc : BitVec 64) (n : Nat) : List UInt8 := Sp.stm (Sp.words (kk.take 16)) ((nc <<< 8) + BitVec.ofNat 64 u) n
def mixB (kk : List UInt8) (u : Nat) (nc : BitVec 64) (bs : List UInt8) : List UInt8 := xorB bs (strB kk u nc bs.length)
theorem strB_len (kk : List UInt8) (u : Nat) (nc : BitVec 64) (n : Nat) : (strB kk u nc n).length = n := Sp.stm_len _ _ _
theorem mixB_len (kk : List UInt8) (u : Nat) (nc : BitVec 64) (bs : List UInt8) : (mixB kk u nc bs).length = bs.length := by simp [mixB, xorB, strB_len]
def xorP (a b : List UInt8) (i : Nat) : List UInt8 := xorB (a.take i) (b.take i) ++ a.drop i
theorem xorP_len {a b : List UInt8} (h : b.length = a.length) {i : Nat} (hi : i ≤ a.length) : (xorP a b i).length = a.length := by simp [xorP, xorB, h]; omega
theorem xorP_at {a b : List UInt8} (h : b.length = a.length) {i : Nat} (hi : i < a.length) : ((xorP a b i).map bv)[i]? = some (bv (a[i]'hi)) := by
 rw [List.getElem?_map]
 unfold xorP
 have hl : (xorB (a.take i) (b.take i)).length = i := by simp [xorB, h]; omega
 rw [List.getElem?_append_right (by omega), hl, Nat.sub_self, List.getElem?_drop, Nat.add_zero, List.getElem?_eq_getElem hi]
 rfl
theorem xorP_step {a b : List UInt8} (h : b.length = a.length) {i : Nat} (hi : i < a.length) : ((xorP a b i).map bv).take (0 + i * 1) ++ (bv (a[i]'hi ^^^ b[i]'(by omega))).cells.toList ++ ((xorP a b i).map bv).drop (0 + i * 1 + 1) = (xorP a b (i + 1)).map bv := by
 have hb : i < b.length := by omega
 have hl : (xorB (a.take i) (b.take i)).length = i := by simp [xorB, h]; omega
 have e2 : xorP a b (i + 1) = xorB (a.take i) (b.take i) ++ ((a[i]'hi ^^^ b[i]'hb) :: a.drop (i + 1)) := by
  unfold xorP xorB
  rw [List.take_succ_eq_append_getElem hi, List.take_succ_eq_append_getElem hb, List.zipWith_append (by simp; omega), List.append_assoc]
  rfl
 have e1 : xorP a b i = xorB (a.take i) (b.take i) ++ (a[i]'hi :: a.drop (i + 1)) := by
  unfold xorP
  rw [← List.drop_eq_getElem_cons hi]
 rw [e1, e2, Nat.mul_one, Nat.zero_add, ← List.map_take, ← List.map_drop]
 rw [List.take_append_of_le_length (by omega), List.take_of_length_le (by omega), List.drop_append, List.drop_of_length_le (by omega), hl, Nat.add_sub_cancel_left]
 simp [Value.cells, bv]
theorem xorP_end {a b : List UInt8} (h : b.length = a.length) : xorP a b a.length = xorB a b := by
 unfold xorP
 rw [List.take_length, ← h, List.take_length, List.drop_of_length_le (by omega), List.append_nil]
set_option maxRecDepth 100000 in
set_option maxHeartbeats 4000000 in
theorem mixed_ok {kk : List UInt8} (hk : kk.length = 32) {xb kb : Nat} {s o q : Int} (m0 : Bool) (u : Nat) (nc : BitVec 64) {A : Option Addr} {len cap : Nat} {bs : List UInt8} {W : World} {r : List Ent} (hl : bs.length = len) (hm : len ≤ 70368744177664) (hlen : len ≤ 35184372088832) (hA : A = none → len = 0 ∧ cap = 0) (hs : Src W r A (bs.map bv)) :
  Tr Pg 151 #[ptr xb, .int .i64 (u : Int), w64 nc, .slice A len cap] W ((xb, isC 234 (BC kb kk s o q)) :: (kb, isC 161 (Sp.kst (kk.take 16) m0)) :: r) fun v l' => ∃ le mm, Lg.Own 5 1 v len ((mixB kk u nc bs).map bv) le ∧ l' = le ++ ((xb, isC 234 (BC kb kk s o q)) :: (kb, isC 161 (Sp.kst (kk.take 16) mm)) :: r) := by
 have hk1 : (kk.take 16).length = 16 := by simp [hk]
 refine Tr.of_code (args := [_, _, _, _]) Tryz.func151 rfl Tryz.ntmps151 lE_ ?_
 refine AU0 ?_
 refine JLs (e_call rfl rfl (Clone_ok hl hm (hs.mono fun e he => by simp [he]) hA) ?_)
 rintro v l' ⟨le1, ho1, rfl, -⟩
 refine JL.perm (l' := (xb, isC 234 (BC kb kk s o q)) :: (kb, isC 161 (Sp.kst (kk.take 16) m0)) :: (le1 ++ r)) prm_ ?_
 refine AU0 ?_
 refine JL.read 0 rfl rfl (r_load1 (v := ptr kb) rfl rfl) ?_
 repeat (first | refine JLp (y_shl64 (n := 8) rfl rfl (by decide)) ?_ | refine JLp (y_conv64 rfl) ?_ | refine JLp (y_add64 rfl rfl) ?_ | refine AS0 ?_)
 refine JLs (e_call rfl rfl (Tr.perm (l' := (kb, isC 161 (Sp.kst (kk.take 16) m0)) :: (xb, isC 234 (BC kb kk s o q)) :: (le1 ++ r)) (List.Perm.swap ..) (Stream_any hk1 m0 ((nc <<< 8) + BitVec.ofNat 64 u) len hlen)) ?_)
 rintro v2 l' ⟨le2, mm, ho2, rfl⟩
 rw [show Sp.stm (Sp.words (kk.take 16)) ((nc <<< 8) + BitVec.ofNat 64 u) len = strB kk u nc len from rfl] at ho2
 have hsl : (strB kk u nc len).length = bs.length := by rw [strB_len, hl]
 have hmx : mixB kk u nc bs = xorP bs (strB kk u nc len) len := by
  unfold mixB
  rw [← hl] at hsl ⊢
  rw [xorP_end hsl]
 rw [hmx]
 generalize strB kk u nc len = ss at *
 obtain ⟨B2, c2, rfl, hs2, hc2⟩ := ho2.src (W := W)
 refine AU0 ?_
 refine JC.loop (fun m f l => ∃ i le1, i + m = len ∧ FrOk f [(9, v), (25, .slice B2 len c2), (26, .int .i64 (len : Int)), (27, .int .i64 (i : Int))] ∧ Lg.Own 5 1 v len ((xorP bs ss i).map bv) le1 ∧ l = le2 ++ ((kb, isC 161 (Sp.kst (kk.take 16) mm)) :: (xb, isC 234 (BC kb kk s o q)) :: (le1 ++ r))) len ?_ ?_
 ·exact ⟨0, le1, by omega, ⟨rfl, rfl, rfl, rfl, trivial⟩, by simpa [xorP, xorB] using ho1, rfl⟩
 rintro m f l ⟨i, le1, hm', hf, ho1, rfl⟩
 refine JC.frame _ hf fun f' => ?_
 by_cases hi : i < len
 ·have hi' : i < bs.length := by omega
  have hi2 : i < ss.length := by omega
  obtain ⟨g1, cap1, rfl, h11, h12, rfl⟩ := own_some ho1 (by omega)
  obtain ⟨g2, cap2, hv2, h21, h22, rfl⟩ := own_some ho2 (by omega)
  cases hv2
  refine AU0 ?_
  refine JL.read 0 rfl rfl (r_loadR1 (v := bv (ss[i]'hi2)) rfl (by rw [Nat.mul_one, Nat.zero_add]; simp [hi2])) ?_
  refine AU0 ?_
  refine JL.read 3 rfl rfl (r_loadR1 (v := bv (bs[i]'hi')) rfl (by rw [Nat.mul_one, Nat.zero_add]; exact xorP_at hsl hi')) ?_
  repeat (first | refine JLp (y_xor8 rfl rfl) ?_ | refine AS0 ?_)
  refine JLs (e_storeR 3 rfl (v := bv (bs[i]'hi' ^^^ ss[i]'hi2)) rfl rfl rfl (bv_all _) (by rw [List.length_map, xorP_len hsl (by omega)]; show 0 + i * 1 + 1 ≤ bs.length; omega) ?_)
  refine JL.cast (l' := [(g2, isR 5 (c2 * 1) (ss.map bv))] ++ ((kb, isC 161 (Sp.kst (kk.take 16) mm)) :: (xb, isC 234 (BC kb kk s o q)) :: ([(g1, isR 5 (cap1 * 1) ((xorP bs ss (i + 1)).map bv))] ++ r))) (by rw [← xorP_step hsl hi']; rfl) ?_
  refine AU0 ?_
  exact RN.loop (m' := m - 1) (by omega) ⟨i + 1, _, by omega, ⟨rfl, rfl, rfl, rfl, trivial⟩, ⟨by rw [List.length_map, xorP_len hsl (by omega)]; omega, .inr ⟨g1, cap1, rfl, h11, h12, rfl⟩⟩, rfl⟩
 ·obtain rfl : len = i := by omega
  refine AU0 ?_
  refine JC.sub (l' := (kb, isC 161 (Sp.kst (kk.take 16) mm)) :: (xb, isC 234 (BC kb kk s o q)) :: (le1 ++ r)) (List.sublist_append_right _ _) ?_
  refine JC.perm (l' := le1 ++ ((xb, isC 234 (BC kb kk s o q)) :: (kb, isC 161 (Sp.kst (kk.take 16) mm)) :: r)) prm_ ?_
  exact JC.ret (RT.one rfl rfl (by conv => lhs; whnf) ⟨le1, mm, ho1, rfl⟩)
def tagB (kk : List UInt8) (u : Nat) (bs : List UInt8) : List UInt8 := bigB (Si.sipOf (kk.drop 16) (UInt8.ofNat u :: bs))
theorem rows2 {W : World} {r : List Ent} {b tot T : Nat} {A B : Option Addr} {c e : Nat} {xs ys : List UInt8} (hb : (b, isR T tot [.slice A xs.length c, .slice B ys.length e]) ∈ r) (hx : Src W r A (xs.map bv)) (hA : A = none → xs.length = 0 ∧ c = 0) (hy : Src W r B (ys.map bv)) (hB : B = none → ys.length = 0 ∧ e = 0) : RowsAt W r (some ⟨b, 0, none⟩) [xs, ys] := by
 refine ⟨_, rfl, Src.whole hb, fun i q h => ?_⟩
 match i, h with
 | 0, h => cases h; exact ⟨A, c, rfl, hx, hA⟩
 | 1, h => cases h; exact ⟨B, e, rfl, hy, hB⟩
set_option maxRecDepth 100000 in
set_option maxHeartbeats 4000000 in
theorem tag_ok {kk : List UInt8} (hk : kk.length = 32) {xb kb : Nat} {s o q : Int} (u : Nat) {A : Option Addr} {len cap : Nat} {bs : List UInt8} {W : World} {r : List Ent} (hl : bs.length = len) (hm : len ≤ 35184372088832) (hA : A = none → len = 0 ∧ cap = 0) (hs : Src W r A (bs.map bv)) :
  Tr Pg 152 #[ptr xb, .int .i64 (u : Int), .slice A len cap] W ((xb, isC 234 (BC kb kk s o q)) :: r) fun v l' => ∃ le, Lg.Own 5 1 v 8 ((tagB kk u bs).map bv) le ∧ l' = le ++ ((xb, isC 234 (BC kb kk s o q)) :: r) := by
 subst hl
 refine Tr.of_code (args := [_, _, _]) Tryz.func152 rfl Tryz.ntmps152 lE_ ?_
 refine AU0 ?_
 refine JL.read 0 rfl rfl (r_loadA (n := 16) rfl (by rw [BC_len hk]; decide) (BC_key hk)) ?_
 repeat (first | refine JLp (y_conv8 rfl) ?_ | refine AS0 ?_)
 refine JLs (e_buildSlice (cells := [bv (UInt8.ofNat u)]) [bv (UInt8.ofNat u)] rfl lE_ rfl (fun u hu => by cases List.mem_singleton.1 hu; rfl) rfl fun b13 => ?_)
 refine AU0 ?_
 refine JLs (e_buildSlice (cells := [.slice (some ⟨b13, 0, none⟩) 1 1, .slice A bs.length cap]) [.slice (some ⟨b13, 0, none⟩) 1 1, .slice A bs.length cap] rfl lE_ rfl (by simp [Value.cells]) rfl fun b15 => ?_)
 refine JLs (e_call rfl rfl (Si.Sum_ok (by simp [hk]) (bss := [[UInt8.ofNat u], bs]) rfl (by decide) (rows2 (xs := [UInt8.ofNat u]) (List.mem_cons_self ..) (Src.whole (List.mem_cons_of_mem _ (List.mem_cons_self ..))) (fun h => by cases h) (hs.mono fun e he => by simp [he]) hA) (by simp; omega)) ?_)
 rintro v l' ⟨rfl, rfl⟩
 refine JL.sub (l' := (xb, isC 234 (BC kb kk s o q)) :: r) (List.sublist_append_right [_, _] _) ?_
 have hfl : [[UInt8.ofNat u], bs].flatten = UInt8.ofNat u :: bs := by simp
 rw [hfl]
 refine JLs (e_call rfl rfl (bytes_ok _) ?_)
 rintro v l' ⟨le, ho, rfl⟩
 refine AU0 ?_
 exact JC.ret (RT.one rfl rfl (by conv => lhs; whnf) ⟨le, ho, rfl⟩)
set_option maxHeartbeats 1000000 in
theorem Equal_ok {A B : Option Addr} {la ca lb cb : Nat} {as_ bs : List UInt8} {W : World} {r : List Ent} (hla : as_.length = la) (hlb : bs.length = lb) (hm : la ≤ maxLen) (hsa : Src W r A (as_.map bv)) (hsb : Src W r B (bs.map bv)) :
  Tr Pg 175 #[.slice A la ca, .slice B lb cb] W r fun v l' => v = .bool (decide (as_ = bs)) ∧ l' = r := by
 have hm' : (la : Int) ≤ 9223372036854775807 := by unfold maxLen at hm; omega
 refine Tr.of_code (args := [_, _]) Tryz.func175 rfl Tryz.ntmps175 lE_ ?_
 by_cases hll : la = lb
 ·subst hll
  refine AU0 ?_
  refine JC.loop (fun m f l => ∃ i, i + m = la ∧ as_.take i = bs.take i ∧ FrOk f [(0, .slice A la ca), (1, .slice B la cb), (12, .int .i64 (la : Int)), (13, .int .i64 (i : Int))] ∧ l = r) la ?_ ?_
  ·exact ⟨0, by omega, rfl, ⟨rfl, rfl, rfl, rfl, trivial⟩, rfl⟩
  rintro m f l ⟨i, hm, heq, hf, rfl⟩
  refine JC.frame _ hf fun f' => ?_
  by_cases hi : i < la
  ·have hia : i < as_.length := by omega
   have hib : i < bs.length := by omega
   obtain ⟨b1, o1, rfl, S1, hS1, hc1⟩ := hsa.look (by simp; omega)
   obtain ⟨b2, o2, rfl, S2, hS2, hc2⟩ := hsb.look (by simp; omega)
   refine AU0 ?_
   refine JC.drawn 9 rfl mixed ?_
   refine JDp 0 rfl y_mv ?_
   refine JDp 1 rfl y_mv ?_
   refine JDp 2 rfl (y_index rfl rfl (by omega)) ?_
   refine JDp 4 rfl y_mv ?_
   refine JDp 5 rfl y_mv ?_
   refine JDp 6 rfl (y_index rfl rfl (by omega)) ?_
   refine JD.readS 3 S1 l rfl (by kernel_rfl) (by kernel_rfl) rfl hS1 (fun e he => he) (y_loadIf (v := bv (as_[i]'hia)) rfl fun w hw => by rw [Nat.mul_one]; exact hc1 i _ (by simp [hia]) w hw) ?_
   refine JD.readS 7 S2 l rfl (by kernel_rfl) (by kernel_rfl) rfl hS2 (fun e he => he) (y_loadIf (v := bv (bs[i]'hib)) rfl fun w hw => by rw [Nat.mul_one]; exact hc2 i _ (by simp [hib]) w hw) ?_
   by_cases hx : as_[i]'hia = bs[i]'hib
   ·refine JDp 8 rfl (y_neq rfl rfl (r := false) (decide_eq_true (congrArg (fun b : UInt8 => (b.toNat : Int)) hx))) ?_
    refine JDd ?_
    refine AU0 ?_
    refine RN.loop (m' := m - 1) (by omega) ⟨i + 1, by omega, ?_, ⟨rfl, rfl, rfl, rfl, trivial⟩, rfl⟩
    rw [List.take_succ_eq_append_getElem hia, List.take_succ_eq_append_getElem hib, heq, hx]
   ·have hne : decide (as_ = bs) = false := decide_eq_false fun h => hx (by subst h; rfl)
    rw [hne]
    have hd : decide ((((as_[i]'hia).toNat : Nat) : Int) = (((bs[i]'hib).toNat : Nat) : Int)) = !true := decide_eq_false fun h => hx (UInt8.toNat_inj.1 (by omega))
    refine JDp 8 rfl (y_neq rfl rfl (r := true) hd) ?_
    refine JDd ?_
    refine AU0 ?_
    exact JC.ret (RT.one rfl rfl rfl ⟨rfl, rfl⟩)
  ·obtain rfl : la = i := by omega
   have he : as_ = bs := by rw [← List.take_of_length_le (l := as_) (i := la) (by omega), heq, List.take_of_length_le (by omega)]
   rw [decide_eq_true he]
   refine AU0 ?_
   exact JC.ret (RT.one rfl rfl rfl ⟨rfl, rfl⟩)
 ·have hne : decide (as_ = bs) = false := decide_eq_false fun h => hll (by rw [← hla, ← hlb, h])
  rw [hne]
  refine AU0 ?_
  exact JC.ret (RT.one rfl rfl rfl ⟨rfl, rfl⟩)
end Go.Proofs.YtbalcgjphkdecaaGreatDoor.Se
namespace Go.Proofs.YtbalcgjphkdecaaGreatDoor.Se
open Go.RowKit Go.Lg
set_option maxRecDepth 100000
attribute [local irreducible] JC JL JD RN RT Eff Yld YldIf Tr Sp.stm Sp.strm Sp.words
set_option maxRecDepth 100000 in
set_option maxHeartbeats 4000000 in
theorem New_ok {kk : List UInt8} (hk : kk.length = 32) {W : World} {r : List Ent} : Tr Pg 77 #[.agg (kk.map bv).toArray] W r fun v l' => ∃ xb kb, v = ptr xb ∧ l' = (xb, isC 234 (BC kb kk 0 0 0)) :: (kb, isC 161 (Sp.kst (kk.take 16) false)) :: r := by
 have hk1 : (kk.take 16).length = 16 := by simp [hk]
 have hk2 : (kk.drop 16).length = 16 := by simp [hk]
 obtain ⟨a0, a1, a2, a3, a4, a5, a6, a7, a8, a9, a10, a11, a12, a13, a14, a15, hd⟩ := Sp.list16 hk2
 have h1 : seg (kk.map bv) (0 + 0 * 1) 16 = (kk.take 16).map bv := by unfold seg; simp [List.map_take]
 have h2 : seg (kk.map bv) (0 + 16 * 1) 16 = [bv a0, bv a1, bv a2, bv a3, bv a4, bv a5, bv a6, bv a7, bv a8, bv a9, bv a10, bv a11, bv a12, bv a13, bv a14, bv a15] := by
  have e : seg (kk.map bv) (0 + 16 * 1) 16 = (kk.drop 16).map bv := by
   unfold seg
   rw [Nat.zero_add, Nat.mul_one, ← List.map_drop, List.take_of_length_le (by simp [hk])]
  rw [e, hd]
  rfl
 have hl1 : 0 + 0 * 1 + 16 ≤ (kk.map bv).length := by simp [hk]
 have hl2 : 0 + 16 * 1 + 16 ≤ (kk.map bv).length := by simp [hk]
 refine Tr.of_code (args := [_]) Tryz.func77 rfl Tryz.ntmps77 lE_ ?_
 refine AU0 ?_
 refine JLs (e_box (cs := kk.map bv) rfl rfl fun b1 => ?_)
 refine AU0 ?_
 refine JC.drawn 10 rfl mixed ?_
 refine JDp 0 rfl (y_sliceA (p := 0) (q := 16) rfl rfl ⟨_, rfl⟩ (by decide) (by decide) (by decide)) ?_
 refine JDp 1 rfl (y_toArr rfl (by decide)) ?_
 refine JDr 2 0 rfl rfl (r_loadA (n := 16) rfl hl1 h1) ?_
 refine JDp 4 rfl (y_sliceA (p := 16) (q := 32) rfl ⟨_, rfl⟩ rfl (by decide) (by decide) (by decide)) ?_
 refine JDp 5 rfl (y_toArr rfl (by decide)) ?_
 refine JDr 6 0 rfl rfl (r_loadA (n := 16) rfl hl2 h2) ?_
 refine JDe 3 rfl (e_call rfl rfl (Sp.New_ok hk1) ?_)
 rintro v l' ⟨kb, rfl, rfl⟩
 refine ⟨tok_, ?_⟩
 refine JDp 7 rfl (y_build (cells := #[ptr kb, bv a0, bv a1, bv a2, bv a3, bv a4, bv a5, bv a6, bv a7, bv a8, bv a9, bv a10, bv a11, bv a12, bv a13, bv a14, bv a15, .int .i64 0, .int .i64 0, .int .i64 0]) (by kernel_rfl)) ?_
 refine JDe 8 rfl (e_box (cs := [ptr kb, bv a0, bv a1, bv a2, bv a3, bv a4, bv a5, bv a6, bv a7, bv a8, bv a9, bv a10, bv a11, bv a12, bv a13, bv a14, bv a15, .int .i64 0, .int .i64 0, .int .i64 0]) rfl rfl fun xb => ⟨tok_, ?_⟩)
 refine JDp 9 rfl y_as ?_
 refine JDd ?_
 refine AU0 ?_
 have hbc : BC kb kk 0 0 0 = [ptr kb, bv a0, bv a1, bv a2, bv a3, bv a4, bv a5, bv a6, bv a7, bv a8, bv a9, bv a10, bv a11, bv a12, bv a13, bv a14, bv a15, .int .i64 0, .int .i64 0, .int .i64 0] := by
  unfold BC
  rw [hd]
  rfl
 refine JC.sub (l' := (xb, isC 234 [ptr kb, bv a0, bv a1, bv a2, bv a3, bv a4, bv a5, bv a6, bv a7, bv a8, bv a9, bv a10, bv a11, bv a12, bv a13, bv a14, bv a15, .int .i64 0, .int .i64 0, .int .i64 0]) :: (kb, isC 161 (Sp.kst (kk.take 16) false)) :: r) (List.Sublist.cons_cons _ (List.Sublist.cons_cons _ (List.sublist_cons_self _ _))) ?_
 exact JC.ret (RT.one rfl rfl rfl ⟨xb, kb, rfl, by rw [hbc]⟩)
def may (u n : Int) (len : Nat) : Prop := 0 ≤ u ∧ u ≤ 255 ∧ 0 ≤ n ∧ n ≤ 1099511627776 ∧ len ≤ 784
def sealB (kk : List UInt8) (u : Nat) (n : BitVec 64) (bs : List UInt8) : List UInt8 := (bigB n ++ mixB kk u n bs) ++ tagB kk u (bigB n ++ mixB kk u n bs)
theorem sealB_len (kk : List UInt8) (u : Nat) (n : BitVec 64) (bs : List UInt8) : (sealB kk u n bs).length = 8 + bs.length + 8 := by simp [sealB, mixB_len, tagB, bigB]; omega
set_option maxRecDepth 100000 in
set_option maxHeartbeats 4000000 in
theorem Seal_ok {kk : List UInt8} (hk : kk.length = 32) {xb kb : Nat} {s o q : Int} (m0 : Bool) (u n : Nat) {A : Option Addr} {len cap : Nat} {bs : List UInt8} {W : World} {r : List Ent} (hmay : may u n len) (hl : bs.length = len) (hA : A = none → len = 0 ∧ cap = 0) (hs : Src W r A (bs.map bv)) :
  Tr Pg 121 #[ptr xb, .int .i64 (u : Int), .int .i64 (n : Int), .slice A len cap] W ((xb, isC 234 (BC kb kk s o q)) :: (kb, isC 161 (Sp.kst (kk.take 16) m0)) :: r) fun v l' =>
   ∃ v1 le mm, v = .tuple #[v1, .int .i64 0] ∧ Lg.Own 5 1 v1 (8 + len + 8) ((sealB kk u (BitVec.ofNat 64 n) bs).map bv) le ∧ l' = le ++ ((xb, isC 234 (BC kb kk (inc s) o q)) :: (kb, isC 161 (Sp.kst (kk.take 16) mm)) :: r) := by
 obtain ⟨m1, m2, m3, m4, m5⟩ := hmay
 have hlen := hl
 refine Tr.of_code (args := [_, _, _, _]) Tryz.func121 rfl Tryz.ntmps121 lE_ ?_
 refine AU0 ?_
 refine JLs (e_call rfl rfl (isUse_ok u) ?_)
 rintro v l' ⟨rfl, rfl⟩
 rw [decide_eq_true (⟨m1, m2⟩ : 0 ≤ (u : Int) ∧ (u : Int) ≤ 255)]
 refine AU0 ?_
 refine JLs (e_call rfl rfl (Add64_ok (o := 17) 0 rfl (BC_s hk)) ?_)
 rintro v l' ⟨-, rfl⟩
 rw [BC_set_s hk]
 refine JL.cast (l' := (xb, isC 234 (BC kb kk (inc s) o q)) :: (kb, isC 161 (Sp.kst (kk.take 16) m0)) :: r) (by rfl) ?_
 repeat (first | refine JLp (y_conv64 rfl) ?_ | refine AS0 ?_)
 refine JLs (e_call rfl rfl (bytes_ok (BitVec.ofNat 64 n)) ?_)
 rintro v37 l' ⟨leA, hoA, rfl⟩
 repeat (first | refine JLp (y_conv64 rfl) ?_ | refine AS0 ?_)
 refine JLs (e_call rfl rfl (Tr.perm (l' := (xb, isC 234 (BC kb kk (inc s) o q)) :: (kb, isC 161 (Sp.kst (kk.take 16) m0)) :: (leA ++ r)) prm_ (mixed_ok hk m0 u (BitVec.ofNat 64 n) hl (by omega) (by omega) hA (hs.mono fun e he => by simp [he]))) ?_)
 rintro v43 l' ⟨leB, mm, hoB, rfl⟩
 obtain ⟨AB, cB, rfl, hsB, -⟩ := hoB.src (W := W)
 have hmx := mixB_len kk u (BitVec.ofNat 64 n) bs
 refine JLs (e_appendP (leB ++ [(xb, isC 234 (BC kb kk (inc s) o q)), (kb, isC 161 (Sp.kst (kk.take 16) mm))]) leA (r := r) (by simp) rfl hoA rfl (by rw [List.length_map, hmx, hl, Nat.mul_one]) (hsB.mono fun e he => by simp [he]) (bv_one _) (by omega) (by unfold maxLen; omega) fun v' le' ho' _ => ?_)
 rw [← List.map_append] at ho'
 refine JL.sub (l' := (xb, isC 234 (BC kb kk (inc s) o q)) :: (kb, isC 161 (Sp.kst (kk.take 16) mm)) :: (le' ++ r)) (by rw [List.append_assoc]; exact List.sublist_append_right _ _) ?_
 obtain ⟨g, c, rfl, hc1, hc2, rfl⟩ := own_some ho' (by omega)
 refine AU0 ?_
 refine JLs (e_call rfl rfl (tag_ok hk u (bs := bigB (BitVec.ofNat 64 n) ++ mixB kk u (BitVec.ofNat 64 n) bs) (by simp [hmx, bigB]; omega) (by omega) (fun h => by cases h) (Src.whole (T := 5) (tot := c * 1) (List.mem_cons_of_mem _ (List.mem_cons_self ..)))) ?_)
 rintro v49 l' ⟨leT, hoT, rfl⟩
 obtain ⟨AT, cT, rfl, hsT, -⟩ := hoT.src (W := W)
 refine JLs (e_appendP (leT ++ [(xb, isC 234 (BC kb kk (inc s) o q)), (kb, isC 161 (Sp.kst (kk.take 16) mm))]) [(g, isR 5 (c * 1) ((bigB (BitVec.ofNat 64 n) ++ mixB kk u (BitVec.ofNat 64 n) bs).map bv))] (r := r) (by simp) rfl ho' rfl (by simp [tagB, bigB]) (hsT.mono fun e he => by simp [he]) (bv_one _) (by omega) (by unfold maxLen; omega) fun v2 le2 ho2 _ => ?_)
 rw [← List.map_append] at ho2
 refine JL.sub (l' := (xb, isC 234 (BC kb kk (inc s) o q)) :: (kb, isC 161 (Sp.kst (kk.take 16) mm)) :: (le2 ++ r)) (by rw [List.append_assoc]; exact List.sublist_append_right _ _) ?_
 refine JL.perm (l' := le2 ++ ((xb, isC 234 (BC kb kk (inc s) o q)) :: (kb, isC 161 (Sp.kst (kk.take 16) mm)) :: r)) prm_ ?_
 refine AU0 ?_
 exact JC.ret (RT.two rfl rfl rfl rfl ⟨v2, le2, mm, rfl, ho2, rfl⟩)
end Go.Proofs.YtbalcgjphkdecaaGreatDoor.Se
namespace Go.Proofs.YtbalcgjphkdecaaGreatDoor.Se
open Go.RowKit Go.Lg
set_option maxRecDepth 100000
attribute [local irreducible] JC JL JD RN RT Eff Yld YldIf Tr Sp.stm Sp.strm Sp.words tagB mixB numB
def openB (kk : List UInt8) (u : Nat) (bs : List UInt8) : Option (List UInt8) :=
 if 16 ≤ bs.length ∧ bs.length ≤ 800 ∧ (numB (bs.take 8)).toNat ≤ 1099511627776 ∧ tagB kk u (bs.take (bs.length - 8)) = bs.drop (bs.length - 8) then some (mixB kk u (numB (bs.take 8)) ((bs.take (bs.length - 8)).drop 8)) else none
theorem y_leq64 {P : Program} {ρ : Operand → Value} {d : Option Tmp} {ty : TypeId} {pos : String} {af : Array Edge} {gd : Option (Nat × Bool)} {t yt : TypeId} {x y : Operand} {a : BitVec 64} {b : Int} {r : Bool} (hx : ρ x = w64 a) (hy : ρ y = .int .u64 b) (hr : decide ((a.toNat : Int) ≤ b) = r) : Yld P ⟨d, .binOp .leq t x y yt, ty, pos, af, gd⟩ ρ (.bool r) := y_leq hx hy hr
theorem piece_some {A : Option Addr} {c l k : Nat} {a : Addr} (h : A = some a) (hn : (if c = l then A else A.map (·.add k)) = none) : False := by
 subst h
 split at hn
 ·cases hn
 ·cases hn
set_option maxRecDepth 100000 in
set_option maxHeartbeats 4000000 in
theorem Open_ok {kk : List UInt8} (hk : kk.length = 32) {xb kb : Nat} {s o q : Int} (m0 : Bool) (u : Nat) (hu : u ≤ 255) {A : Option Addr} {len cap : Nat} {bs : List UInt8} {W : World} {r : List Ent} (hl : bs.length = len) (hlc : len ≤ cap) (hs : Src W r A (bs.map bv)) :
  Tr Pg 130 #[ptr xb, .int .i64 (u : Int), .slice A len cap] W ((xb, isC 234 (BC kb kk s o q)) :: (kb, isC 161 (Sp.kst (kk.take 16) m0)) :: r) fun v l' =>
   (∃ ps v1 le mm, openB kk u bs = some ps ∧ v = .tuple #[v1, .int .i64 0] ∧ Lg.Own 5 1 v1 ps.length (ps.map bv) le ∧ l' = le ++ ((xb, isC 234 (BC kb kk s (inc o) q)) :: (kb, isC 161 (Sp.kst (kk.take 16) mm)) :: r)) ∨
   (openB kk u bs = none ∧ v = .tuple #[(Value.slice none 0 0), .int .i64 3] ∧ l' = (xb, isC 234 (BC kb kk s o (inc q))) :: (kb, isC 161 (Sp.kst (kk.take 16) m0)) :: r) := by
 refine Tr.of_code (args := [_, _, _]) Tryz.func130 rfl Tryz.ntmps130 lE_ ?_
 refine AU0 ?_
 refine JLs (e_call rfl rfl (isUse_ok u) ?_)
 rintro v l' ⟨rfl, rfl⟩
 rw [decide_eq_true (⟨by omega, by omega⟩ : 0 ≤ (u : Int) ∧ (u : Int) ≤ 255)]
 by_cases h16 : len < 16
 ·have ho : openB kk u bs = none := if_neg (by omega)
  refine AU0 ?_
  refine JLs (e_call rfl rfl (Add64_ok (o := 19) 0 rfl (BC_q hk)) ?_)
  rintro v l' ⟨-, rfl⟩
  rw [BC_set_q hk]
  refine AU0 ?_
  exact JC.ret (RT.two rfl rfl rfl rfl (.inr ⟨ho, rfl, rfl⟩))
 by_cases h800 : 800 < len
 ·have ho : openB kk u bs = none := if_neg (by omega)
  refine AU0 ?_
  refine JLs (e_call rfl rfl (Add64_ok (o := 19) 0 rfl (BC_q hk)) ?_)
  rintro v l' ⟨-, rfl⟩
  rw [BC_set_q hk]
  refine AU0 ?_
  exact JC.ret (RT.two rfl rfl rfl rfl (.inr ⟨ho, rfl, rfl⟩))
 obtain ⟨b0, o0, rfl, -⟩ := hs.at_ (by simp; omega)
 have hsub : IntKind.i64.wrap ((len : Int) - 8) = ((len - 8 : Nat) : Int) := by rw [wrap_add (by omega) (by omega)]; omega
 have hcm : (bs.map bv).length ≤ cap := by rw [List.length_map]; omega
 have s0 : Src W r (if cap = 0 then (some ⟨b0, o0, none⟩ : Option Addr) else (some ⟨b0, o0, none⟩ : Option Addr).map (·.add (0 * 1))) ((bs.take (len - 8)).map bv) := by
  have := (hs.fromG hcm 0).take (len - 8)
  rwa [List.drop_zero, ← List.map_take] at this
 have s1 : Src W r (if cap = 0 then (some ⟨b0, o0, none⟩ : Option Addr) else (some ⟨b0, o0, none⟩ : Option Addr).map (·.add (0 * 1))) ((bs.take 8).map bv) := by
  have := (hs.fromG hcm 0).take 8
  rwa [List.drop_zero, ← List.map_take] at this
 have s2 : Src W r (if cap = len - 8 then (some ⟨b0, o0, none⟩ : Option Addr) else (some ⟨b0, o0, none⟩ : Option Addr).map (·.add ((len - 8) * 1))) ((bs.drop (len - 8)).map bv) := by
  have := hs.fromG hcm (len - 8)
  rwa [← List.map_drop] at this
 have s3 : Src W r (if cap - 0 = 8 then (if cap = 0 then (some ⟨b0, o0, none⟩ : Option Addr) else (some ⟨b0, o0, none⟩ : Option Addr).map (·.add (0 * 1))) else ((if cap = 0 then (some ⟨b0, o0, none⟩ : Option Addr) else (some ⟨b0, o0, none⟩ : Option Addr).map (·.add (0 * 1)))).map (·.add (8 * 1))) (((bs.take (len - 8)).drop 8).map bv) := by
  have := s0.fromG (cap := cap - 0) (by rw [List.length_map, List.length_take]; omega) 8
  rwa [← List.map_drop] at this
 have hl0 : (bs.take (len - 8)).length = len - 8 - 0 := by rw [List.length_take]; omega
 have hob : openB kk u bs = if (numB (bs.take 8)).toNat ≤ 1099511627776 ∧ tagB kk u (bs.take (len - 8)) = bs.drop (len - 8) then some (mixB kk u (numB (bs.take 8)) ((bs.take (len - 8)).drop 8)) else none := by
  unfold openB
  rw [hl]
  by_cases hc : (numB (bs.take 8)).toNat ≤ 1099511627776 ∧ tagB kk u (bs.take (len - 8)) = bs.drop (len - 8)
  ·rw [if_pos hc, if_pos ⟨by omega, by omega, hc.1, hc.2⟩]
  ·rw [if_neg hc, if_neg fun h => hc ⟨h.2.2.1, h.2.2.2⟩]
 refine AU0 ?_
 refine JC.drawn 10 rfl mixed ?_
 refine JDp 0 rfl y_mv ?_
 refine JDp 1 rfl y_mv ?_
 refine JDp 2 rfl (y_len rfl) ?_
 refine JDp 3 rfl (y_sub rfl rfl hsub) ?_
 refine JDp 4 rfl (y_sliceG (l := 0) (h := len - 8) rfl rfl ⟨_, rfl⟩ (by omega) (by omega)) ?_
 refine JDp 5 rfl y_mv ?_
 refine JDp 6 rfl (y_sliceG (l := 0) (h := 8) rfl rfl ⟨_, rfl⟩ (by omega) (by omega)) ?_
 refine JDe 7 rfl (e_call rfl rfl (number_ok (bs := bs.take 8) (by rw [List.length_take]; omega) (by decide) (s1.mono fun e he => by simp [he])) ?_)
 rintro v l' ⟨rfl, rfl⟩
 refine ⟨tok_, ?_⟩
 refine JDp 8 rfl y_as ?_
 refine JDp 9 rfl y_as ?_
 refine JDd ?_
 refine AU0 ?_
 by_cases hn : (numB (bs.take 8)).toNat ≤ 1099511627776
 ·have hn' : decide (((numB (bs.take 8)).toNat : Int) ≤ 1099511627776) = true := decide_eq_true (by omega)
  refine JC.drawn 14 rfl mixed ?_
  refine JDp 0 rfl y_mv ?_
  refine JDp 1 rfl (y_leq64 rfl rfl hn') ?_
  refine JDp 2 rfl y_mv ?_
  refine JDp 3 rfl y_mv ?_
  refine JDp 4 rfl y_mv ?_
  refine JDp 5 rfl y_mv ?_
  refine JDp 7 rfl y_mv ?_
  refine JDp 8 rfl y_mv ?_
  refine JDp 9 rfl (y_len rfl) ?_
  refine JDp 10 rfl (y_sub rfl rfl hsub) ?_
  refine JDp 11 rfl (y_sliceG (l := len - 8) (h := len) rfl ⟨_, rfl⟩ rfl (by omega) (by omega)) ?_
  refine JDe 6 rfl (e_call rfl rfl (tag_ok hk u hl0 (by omega) (fun h => (piece_some rfl h).elim) (s0.mono fun e he => List.mem_cons_of_mem _ he)) ?_)
  rintro v39 l' ⟨leT, hoT, rfl⟩
  refine ⟨tok_, ?_⟩
  obtain ⟨AT, cT, rfl, hsT, -⟩ := hoT.src (W := W)
  refine JDe 12 rfl (e_call rfl rfl (Equal_ok (as_ := tagB kk u (bs.take (len - 8))) (bs := bs.drop (len - 8)) (by have := hoT.len; simpa using this) (by rw [List.length_drop]; omega) (by decide) (hsT.mono fun e he => List.mem_append_left _ he) (s2.mono fun e he => by simp [he])) ?_)
  rintro v45 l' ⟨rfl, rfl⟩
  refine ⟨tok_, ?_⟩
  by_cases ht : tagB kk u (bs.take (len - 8)) = bs.drop (len - 8)
  ·have ho : openB kk u bs = some (mixB kk u (numB (bs.take 8)) ((bs.take (len - 8)).drop 8)) := by rw [hob, if_pos ⟨hn, ht⟩]
   rw [decide_eq_true ht]
   refine JDp 13 rfl (y_pick_t rfl (by conv => lhs; whnf)) ?_
   refine JDd ?_
   refine RN.sub (l' := (xb, isC 234 (BC kb kk s o q)) :: (kb, isC 161 (Sp.kst (kk.take 16) m0)) :: r) (List.sublist_append_right _ _) ?_
   refine AU0 ?_
   refine JLs (e_call rfl rfl (Add64_ok (o := 18) 0 rfl (BC_o hk)) ?_)
   rintro v l' ⟨-, rfl⟩
   rw [BC_set_o hk]
   refine JL.cast (l' := (xb, isC 234 (BC kb kk s (inc o) q)) :: (kb, isC 161 (Sp.kst (kk.take 16) m0)) :: r) (by rfl) ?_
   repeat (first | refine JLp (y_sliceG (l := 8) (h := len - 8 - 0) rfl ⟨_, rfl⟩ rfl (by omega) (by omega)) ?_ | refine AS0 ?_)
   refine JLs (e_call rfl rfl (mixed_ok hk m0 u (numB (bs.take 8)) (bs := (bs.take (len - 8)).drop 8) (by rw [List.length_drop, hl0]) (by omega) (by omega) (fun h => (by
    split at h
    ·exact (piece_some rfl h).elim
    ·exact (piece_some rfl (by simpa using h)).elim)) s3) ?_)
   rintro v56 l' ⟨le, mm, hom, rfl⟩
   refine AU0 ?_
   refine JC.ret (RT.two rfl rfl rfl rfl (.inl ⟨_, v56, le, mm, ho, rfl, ?_, rfl⟩))
   have hml : (mixB kk u (numB (bs.take 8)) ((bs.take (len - 8)).drop 8)).length = len - 8 - 0 - 8 := by
    have := hom.len
    simpa using this
   rw [hml]
   exact hom
  ·have ho : openB kk u bs = none := by rw [hob, if_neg fun h => ht h.2]
   rw [decide_eq_false ht]
   refine JDp 13 rfl (y_pick_t rfl (by conv => lhs; whnf)) ?_
   refine JDd ?_
   refine RN.sub (l' := (xb, isC 234 (BC kb kk s o q)) :: (kb, isC 161 (Sp.kst (kk.take 16) m0)) :: r) (List.sublist_append_right _ _) ?_
   refine AU0 ?_
   refine JLs (e_call rfl rfl (Add64_ok (o := 19) 0 rfl (BC_q hk)) ?_)
   rintro v l' ⟨-, rfl⟩
   rw [BC_set_q hk]
   refine AU0 ?_
   exact JC.ret (RT.two rfl rfl rfl rfl (.inr ⟨ho, rfl, rfl⟩))
 ·have hn' : decide (((numB (bs.take 8)).toNat : Int) ≤ 1099511627776) = false := decide_eq_false (by omega)
  have ho : openB kk u bs = none := by rw [hob, if_neg fun h => hn h.1]
  refine JC.drawn 14 rfl mixed ?_
  refine JDp 0 rfl y_mv ?_
  refine JDp 1 rfl (y_leq64 rfl rfl hn') ?_
  refine JDp 2 rfl y_mv ?_
  refine JDo 3 rfl ?_
  refine JDo 4 rfl ?_
  refine JDo 5 rfl ?_
  refine JDo 7 rfl ?_
  refine JDo 8 rfl ?_
  refine JDo 9 rfl ?_
  refine JDo 10 rfl ?_
  refine JDo 11 rfl ?_
  refine JDo 6 rfl ?_
  refine JDo 12 rfl ?_
  refine JDp 13 rfl (y_pick_f rfl (by conv => lhs; whnf)) ?_
  refine JDd ?_
  refine AU0 ?_
  refine JLs (e_call rfl rfl (Add64_ok (o := 19) 0 rfl (BC_q hk)) ?_)
  rintro v l' ⟨-, rfl⟩
  rw [BC_set_q hk]
  refine AU0 ?_
  exact JC.ret (RT.two rfl rfl rfl rfl (.inr ⟨ho, rfl, rfl⟩))
end Go.Proofs.YtbalcgjphkdecaaGreatDoor.Se


namespace Go.Proofs.YtbalcgjphkdecaaGreatDoor.Se
open Go.RowKit Go.Lg
set_option maxRecDepth 100000
attribute [local irreducible] JC JL JD RN RT Eff Yld YldIf Tr Sp.stm Sp.strm Sp.words Sp.wAt Sp.sch
theorem numS_shift (m : BitVec 64) : numS (m >>> 8) (UInt8.ofNat m.toNat) = m := by
 rw [← add_or]
 apply BitVec.eq_of_toNat_eq
 have hm := m.isLt
 rw [BitVec.toNat_add, BitVec.toNat_shiftLeft, BitVec.toNat_ushiftRight, BitVec.toNat_ofNat, Nat.shiftLeft_eq, Nat.shiftRight_eq_div_pow]
 have h3 : (UInt8.ofNat m.toNat).toNat = m.toNat % 256 := by simp
 rw [h3]
 omega
theorem num_step8 (n : BitVec 64) (j : Nat) : numS (n >>> (8 * (j + 1))) (byteAt n j) = n >>> (8 * j) := by
 rw [show 8 * (j + 1) = 8 * j + 8 from by omega, BitVec.shiftRight_add]
 exact numS_shift _
theorem numB_bigB (n : BitVec 64) : numB (bigB n) = n := by
 have h0 : (0 : BitVec 64) = n >>> (8 * (7 + 1)) := by
  apply BitVec.eq_of_toNat_eq
  have hm := n.isLt
  rw [BitVec.toNat_ushiftRight, Nat.shiftRight_eq_div_pow]
  show 0 = n.toNat / 2 ^ (8 * (7 + 1))
  omega
 show numS (numS (numS (numS (numS (numS (numS (numS 0 (byteAt n 7)) (byteAt n 6)) (byteAt n 5)) (byteAt n 4)) (byteAt n 3)) (byteAt n 2)) (byteAt n 1)) (byteAt n 0) = n
 rw [h0, num_step8 n 7, num_step8 n 6, num_step8 n 5, num_step8 n 4, num_step8 n 3, num_step8 n 2, num_step8 n 1, num_step8 n 0]
 simp
theorem xorB_back : ∀ (a s : List UInt8), s.length = a.length → xorB (xorB a s) s = a
 | [], _, _ => rfl
 | x :: a, y :: s, h => by
  have h1 : (x ^^^ y) ^^^ y = x := by rw [UInt8.xor_assoc, UInt8.xor_self, UInt8.xor_zero]
  have h2 := xorB_back a s (by simpa using h)
  unfold xorB at h2 ⊢
  simp only [List.zipWith_cons_cons, h1, h2]
theorem mixB_back (kk : List UInt8) (u : Nat) (nc : BitVec 64) (bs : List UInt8) : mixB kk u nc (mixB kk u nc bs) = bs := by
 have h := mixB_len kk u nc bs
 have e : mixB kk u nc (mixB kk u nc bs) = xorB (mixB kk u nc bs) (strB kk u nc (mixB kk u nc bs).length) := rfl
 rw [e, h]
 exact xorB_back bs _ (strB_len ..)
theorem open_seal (kk : List UInt8) (u n : Nat) (bs : List UInt8) (hn : n ≤ 1099511627776) (hl : bs.length ≤ 784) : openB kk u (sealB kk u (BitVec.ofNat 64 n) bs) = some bs := by
 have hbig : (bigB (BitVec.ofNat 64 n)).length = 8 := rfl
 have hmix := mixB_len kk u (BitVec.ofNat 64 n) bs
 have hlen := sealB_len kk u (BitVec.ofNat 64 n) bs
 have hah : (sealB kk u (BitVec.ofNat 64 n) bs).take ((sealB kk u (BitVec.ofNat 64 n) bs).length - 8) = bigB (BitVec.ofNat 64 n) ++ mixB kk u (BitVec.ofNat 64 n) bs := by
  rw [hlen]
  unfold sealB
  rw [List.take_append_of_le_length (by rw [List.length_append, hbig, hmix]; omega), List.take_of_length_le (by rw [List.length_append, hbig, hmix]; omega)]
 have htg : (sealB kk u (BitVec.ofNat 64 n) bs).drop ((sealB kk u (BitVec.ofNat 64 n) bs).length - 8) = tagB kk u (bigB (BitVec.ofNat 64 n) ++ mixB kk u (BitVec.ofNat 64 n) bs) := by
  rw [hlen]
  unfold sealB
  rw [List.drop_append, List.drop_of_length_le (by rw [List.length_append, hbig, hmix]; omega), List.nil_append, List.length_append, hbig, hmix, show 8 + bs.length + 8 - 8 - (8 + bs.length) = 0 from by omega, List.drop_zero]
 have h8 : (sealB kk u (BitVec.ofNat 64 n) bs).take 8 = bigB (BitVec.ofNat 64 n) := by
  unfold sealB
  rw [List.append_assoc, List.take_append_of_le_length (by rw [hbig]; omega), List.take_of_length_le (by rw [hbig]; omega)]
 have hnum : (numB (bigB (BitVec.ofNat 64 n))).toNat ≤ 1099511627776 := by
  rw [numB_bigB, BitVec.toNat_ofNat]
  exact Nat.le_trans (Nat.mod_le _ _) hn
 unfold openB
 rw [hah, htg, h8, if_pos ⟨by omega, by omega, hnum, rfl⟩, numB_bigB, List.drop_append, List.drop_of_length_le (by rw [hbig]; omega), List.nil_append, hbig, Nat.sub_self, List.drop_zero, mixB_back]
end Go.Proofs.YtbalcgjphkdecaaGreatDoor.Se
namespace Go.Proofs.YtbalcgjphkdecaaGreatDoor.To
open Go.RowKit Go.Lg
set_option maxRecDepth 100000
def K (i : Nat) : Bs := Sp.stm (Sp.words (List.replicate 16 0)) (BitVec.ofNat 64 i <<< 32) 32
def cat (l : List S) : S := Lib.join l [44]
def lastAt {α : Type} (q : α → Bool) : List α → Nat → Option (Nat × α)
 | [], _ => none
 | x :: xs, i => match lastAt q xs (i + 1) with
  | some r => some r
  | none => if q x then some (i, x) else none
theorem lastAt_some {α : Type} (q : α → Bool) : ∀ (l : List α) (k i : Nat) (x : α), lastAt q l k = some (i, x) → ∃ j, i = k + j ∧ l[j]? = some x ∧ q x = true ∧ ∀ n y, j < n → l[n]? = some y → q y = false
  | [], k, i, x, h => by simp [lastAt] at h
  | y :: ys, k, i, x, h => by
    unfold lastAt at h
    cases hl : lastAt q ys (k + 1) with
    | some r =>
      rw [hl] at h
      dsimp only at h
      cases h
      obtain ⟨j, h1, h2, h3, h4⟩ := lastAt_some q ys (k + 1) i x hl
      refine ⟨j + 1, by omega, by simpa using h2, h3, fun n z hn hz => ?_⟩
      cases n with
      | zero => omega
      | succ n => exact h4 n z (by omega) (by simpa using hz)
    | none =>
      rw [hl] at h
      dsimp only at h
      split at h
      · rename_i hq
        cases h
        refine ⟨0, by omega, rfl, hq, fun n z hn hz => ?_⟩
        cases n with
        | zero => omega
        | succ n =>
          have hz' : z ∈ ys := List.mem_of_getElem? (by simpa using hz)
          exact lastAt_none q ys (k + 1) hl z hz'
      · cases h
 where
  lastAt_none {α : Type} (q : α → Bool) : ∀ (l : List α) (k : Nat), lastAt q l k = none → ∀ y ∈ l, q y = false
    | [], _, _, y, hy => by cases hy
    | x :: xs, k, h, y, hy => by
      unfold lastAt at h
      cases hl : lastAt q xs (k + 1) with
      | some r => rw [hl] at h; cases h
      | none =>
        rw [hl] at h
        dsimp only at h
        split at h
        · cases h
        · rename_i hq
          rcases List.mem_cons.1 hy with rfl | hy
          · simpa using hq
          · exact lastAt_none q xs (k + 1) hl y hy
theorem lastAt_none {α : Type} (q : α → Bool) (l : List α) (k : Nat) (h : lastAt q l k = none) : ∀ y ∈ l, q y = false := lastAt_some.lastAt_none q l k h
structure PaS where
 cl : P2
 ses : Nat
 tr : List S
 st : Int
 en : Int
def PaS.pa (p : PaS) : Pa := ⟨p.cl, K p.ses, cat p.tr, p.st, p.en⟩
structure TkS where
 sv_ : P2
 kv : Nat
 k : Nat
 n : Nat
 pa : PaS
def TkS.tk (t : TkS) : Tk := ⟨t.sv_, (t.kv : Int), Se.sealB (K t.k) 2 (BitVec.ofNat 64 t.n) t.pa.pa.byts⟩
structure AuS where
 k : Nat
 u : Nat
 n : Nat
 a : Au
def AuS.b (x : AuS) : Bs := Se.sealB (K x.k) x.u (BitVec.ofNat 64 x.n) x.a.byts
structure RpS where
 k : Nat
 u : Nat
 n : Nat
 ses : Nat
 sv_ : P2
 st : Int
 en : Int
 nc : Int
def RpS.rp (x : RpS) : RP := ⟨K x.ses, x.sv_, x.st, x.en, x.nc⟩
def RpS.b (x : RpS) : Bs := Se.sealB (K x.k) x.u (BitVec.ofNat 64 x.n) x.rp.byts
inductive MS where
 | aq (q : AsQ)
 | tg (tk : TkS) (au : AuS) (sv_ : P2) (till nc : Int)
 | rep (cl : P2) (tk : TkS) (rp : RpS)
 | ap (tk : TkS) (au : AuS)
def MS.mg : MS → Mg
 | .aq q => .aq q
 | .tg tk au s till nc => .tg ⟨tk.tk, au.b, s, till, nc⟩
 | .rep cl tk rp => .rep ⟨cl, tk.tk, rp.b⟩
 | .ap tk au => .ap ⟨tk.tk, au.b⟩
def okPb (p : P2) : Bool := tiny p && fitP p && isPr p
def okTr (l : List S) : Bool := decide ((cat l).length ≤ 300) && (cat l).all fun b => decide (32 ≤ b.toNat) && decide (b.toNat ≤ 126)
def tmb (n : Int) : Bool := decide (0 ≤ n) && decide (n ≤ 1073741824)
def nb (n : Nat) : Bool := decide (n ≤ 1000000)
def PaS.okb (p : PaS) : Bool := okPb p.cl && okTr p.tr && tmb p.st && tmb p.en
def TkS.okb (t : TkS) : Bool := okPb t.sv_ && decide (1 ≤ t.kv) && decide (t.kv ≤ 255) && nb t.n && t.pa.okb
def AuS.okb (x : AuS) : Bool := decide (x.u ≤ 255) && nb x.n && okPb x.a.cl && tmb x.a.tm_ && tmb x.a.sq
def RpS.okb (x : RpS) : Bool := decide (x.u ≤ 255) && nb x.n && okPb x.sv_ && tmb x.st && tmb x.en && tmb x.nc
def MS.okb : MS → Bool
 | .aq q => okPb q.cl && okPb q.sv_ && tmb q.till && tmb q.nc
 | .tg tk au s till nc => tk.okb && au.okb && okPb s && tmb till && tmb nc
 | .rep cl tk rp => okPb cl && tk.okb && rp.okb
 | .ap tk au => tk.okb && au.okb
structure RI where
 p : P2
 kv : Nat
 k : Nat
structure KdcS where
 r : S
 n : Nat
 iss : Nat
 its : List RI
def isP (p : P2) (x : RI) : Bool := decide (x.p = p)
def isPk (p : P2) (kv : Nat) (x : RI) : Bool := decide (x.p = p) && decide (x.kv = kv)
def makesM (k : KdcS) (to : P2) (pa : PaS) (nc : Int) (bk u : Nat) : Option (KdcS × MS) :=
 match lastAt (isP to) k.its 0 with
 | some (_, it) =>
  if pa.okb && okPb to && tmb nc && nb k.n && nb k.iss && decide (u ≤ 255) && (MS.rep pa.cl ⟨to, it.kv, it.k, k.n + 1, pa⟩ ⟨bk, u, k.n + 2, pa.ses, to, pa.st, pa.en, nc⟩).okb then
   some (⟨k.r, k.n + 2, k.iss + 1, k.its⟩, .rep pa.cl ⟨to, it.kv, it.k, k.n + 1, pa⟩ ⟨bk, u, k.n + 2, pa.ses, to, pa.st, pa.en, nc⟩)
  else none
 | none => none
def asM (k : KdcS) (q : AsQ) (now : Int) (d : Nat) : Option (KdcS × MS) :=
 match lastAt (isP q.cl) k.its 0, lastAt (isP q.sv_) k.its 0 with
 | some (_, it), some _ =>
  if (MS.aq q).okb && tmb now && decide (q.cl.1 = k.r) && decide (q.sv_ = (k.r, grantS ++ k.r)) && decide (now ≤ q.till) && decide (k.r.length ≤ 1000) then
   makesM k q.sv_ ⟨q.cl, d, [], now, min q.till (now + 1000)⟩ q.nc it.k 3
  else none
 | _, _ => none
def viaOk (T : Topo) (a b : S) : Bool := decide (T.rs.length ≤ 6) && decide (T.ps.length ≤ 8) && (T.ps.all fun p => decide (p.via.length ≤ 4)) && decide (T.ls.length ≤ 20) && fit2 a && fit2 b && lone a b && okR a && okR b && decide ((viaS T a b).length ≤ 1000)
def targetM (T : Topo) (k : KdcS) (s : P2) : Option P2 :=
 if s.1 = k.r then some s
 else if decide (s.1 ∈ T.rs) && viaOk T k.r s.1 && decide (k.r.length ≤ 1000) then (nextS T k.r s.1).bind fun r => if r.length ≤ 1000 then some (k.r, grantS ++ r) else none
 else none
def fitR (r : S) : Bool := fit r && okR r
def passedM (k : KdcS) (pa : PaS) (fr to : S) : Option (List S) :=
 if fr = k.r ∨ fr = pa.cl.1 then some pa.tr
 else if told (cat pa.tr) pa.tr && fitR pa.cl.1 && fitR to && fitR fr && decide (fr ≠ pa.cl.1) && decide (fr ≠ to) && decide (fr ∉ pa.tr) && plain (pa.tr ++ [fr]) then some (pa.tr ++ [fr])
 else none
def tgsM (T : Topo) (k : KdcS) (tk : TkS) (au : AuS) (s : P2) (till nc now : Int) (d : Nat) : Option (KdcS × MS) :=
 match lastAt (isPk tk.sv_ tk.kv) k.its 0, targetM T k s with
 | some (_, it), some to =>
  match lastAt (isP to) k.its 0, passedM k tk.pa tk.sv_.1 s.1 with
  | some _, some tr =>
   if (MS.tg tk au s till nc).okb && tmb now && decide (tk.sv_.2 = grantS ++ k.r) && decide (k.r.length ≤ 1000) && decide (it.k = tk.k) && decide (now ≤ tk.pa.en) && decide (tk.pa.st ≤ now + 5) && decide (au.k = tk.pa.ses) && decide (au.u = 7) && decide (au.a.cl = tk.pa.cl)
    && decide (au.a.tm_ ≤ now + 5) && decide (now - 5 ≤ au.a.tm_) && decide (now ≤ till) then
    makesM k to ⟨tk.pa.cl, d, tr, now, min till tk.pa.en⟩ nc tk.pa.ses 8
   else none
  | _, _ => none
 | _, _ => none
def handleM (T : Topo) (k : KdcS) (m : MS) (now : Int) (d : Nat) : Option (KdcS × MS) :=
 match m with
 | .aq q => asM k q now d
 | .tg tk au s till nc => tgsM T k tk au s till nc now d
 | _ => none
structure CrS where
 tk : TkS
 ses : Nat
 en : Int
structure OutS where
 nc : Int
 bk : Nat
 u : Nat
 fst : Bool
structure ClS where
 p : P2
 k : Nat
 ca : List (P2 × CrS)
 nn : Nat
 ns : Nat
 nq : Nat
 st : Nat
 sent : Nat
 tg : P2
 vis : List S
 out : Option OutS
def isUserB (p : P2) : Bool := okPb p && (targetS p.2).isNone
def tillM (now : Int) : Int := min (now + 1000) 1073741824
def furtherM (c : ClS) (r : S) (x : CrS) (now : Int) : Option (ClS × S × MS) :=
 if (MS.tg x.tk ⟨x.ses, 7, c.ns + 1, ⟨c.p, now, 0⟩⟩ c.tg (tillM now) (c.nn + 1 : Nat)).okb && tmb now && nb c.nn && nb c.ns && nb c.sent && decide (c.vis.length ≤ 10) then
  some (⟨c.p, c.k, c.ca, c.nn + 1, c.ns + 1, c.nq, c.st, c.sent + 1, c.tg, c.vis ++ [r], some ⟨(c.nn + 1 : Nat), x.ses, 8, false⟩⟩, r, .tg x.tk ⟨x.ses, 7, c.ns + 1, ⟨c.p, now, 0⟩⟩ c.tg (tillM now) (c.nn + 1 : Nat))
 else none
def chaseM (c : ClS) (t : P2) (now : Int) : Option (ClS × S × MS) :=
 if c.st = 0 && isUserB t && tmb now && decide (c.ca = []) && nb c.nn && nb c.sent && decide (c.p.1.length ≤ 1000) && (MS.aq ⟨c.p, (c.p.1, grantS ++ c.p.1), tillM now, (c.nn + 1 : Nat)⟩).okb then
  some (⟨c.p, c.k, c.ca, c.nn + 1, c.ns, c.nq, 1, 1, t, [], some ⟨(c.nn + 1 : Nat), c.k, 3, true⟩⟩, c.p.1, .aq ⟨c.p, (c.p.1, grantS ++ c.p.1), tillM now, (c.nn + 1 : Nat)⟩)
 else none
def putM (p : P2) (x : CrS) (now : Int) (l : List (P2 × CrS)) : Option (List (P2 × CrS)) :=
 if (l.all fun y => decide (now ≤ y.2.en)) && (l.all fun y => decide (y.1 ≠ p)) && decide (l.length < 10) then some (l ++ [(p, x)]) else none
def takeM (c : ClS) (m : MS) (now : Int) : Option (ClS × Option (S × MS)) :=
 match m, c.out with
 | .rep cl tk rp, some o =>
  match putM tk.sv_ ⟨tk, rp.ses, rp.en⟩ now c.ca with
  | some ca =>
   if c.st = 1 && m.okb && tmb now && decide (cl = c.p) && decide (rp.k = o.bk) && decide (rp.u = o.u) && decide (rp.nc = o.nc) && decide (rp.sv_ = tk.sv_) then
    if tk.sv_ = c.tg then some (⟨c.p, c.k, ca, c.nn, c.ns, c.nq, 2, c.sent, c.tg, c.vis, c.out⟩, none)
    else match targetS tk.sv_.2 with
     | some r =>
      if (!o.fst || decide (tk.sv_ = (c.p.1, grantS ++ c.p.1))) && decide (r ∉ c.vis) && decide (c.vis.length ≤ 5) && decide (c.p.1.length ≤ 1000) then
       (furtherM ⟨c.p, c.k, ca, c.nn, c.ns, c.nq, c.st, c.sent, c.tg, c.vis, c.out⟩ r ⟨tk, rp.ses, rp.en⟩ now).map fun x => (x.1, some x.2)
      else none
     | none => none
   else none
  | none => none
 | _, _ => none
def askM (c : ClS) (t : P2) (now : Int) : Option (Option (ClS × MS)) :=
 match c.ca.find? fun y => decide (y.1 = t) with
 | some (_, x) =>
  if tmb now then
   if now ≤ x.en then
    if (MS.ap x.tk ⟨x.ses, 11, c.ns + 1, ⟨c.p, now, (c.nq + 1 : Nat)⟩⟩).okb && nb c.ns && nb c.nq then
     some (some (⟨c.p, c.k, c.ca, c.nn, c.ns + 1, c.nq + 1, c.st, c.sent, c.tg, c.vis, c.out⟩, .ap x.tk ⟨x.ses, 11, c.ns + 1, ⟨c.p, now, (c.nq + 1 : Nat)⟩⟩))
    else none
   else some none
  else none
 | none => none
structure AcS where
 p : P2
 k : Nat
 seen : List Au
structure AccS where
 cl : P2
 sv_ : P2
 ses : Nat
 tr : List S
 tm_ : Int
 sq : Int
def acceptM (T : Topo) (a : AcS) (m : MS) (now : Int) : Option (AcS × Option AccS) :=
 match m with
 | .ap tk au =>
  if m.okb && tmb now && decide (tk.sv_ = a.p) && decide (tk.kv = 1) && decide (tk.k = a.k) && decide (now ≤ tk.pa.en) && decide (tk.pa.st ≤ now + 5) && decide (au.k = tk.pa.ses) && decide (au.u = 11) && decide (au.a.cl = tk.pa.cl)
   && told (cat tk.pa.tr) tk.pa.tr && fitR tk.pa.cl.1 && fitR a.p.1 && decide (tk.pa.cl.1 ∈ T.rs) && viaOk T tk.pa.cl.1 a.p.1 && decide (tk.pa.tr.length ≤ 1000) && (tk.pa.tr.all fun r => decide (r ∈ viaS T tk.pa.cl.1 a.p.1)) && decide (a.seen.length = 0) then
   if au.a.tm_ ≤ now + 5 ∧ now - 5 ≤ au.a.tm_ then some (⟨a.p, a.k, [au.a]⟩, some ⟨tk.pa.cl, a.p, tk.pa.ses, tk.pa.tr, au.a.tm_, au.a.sq⟩)
   else some (a, none)
  else none
 | _ => none
structure WS where
 T : Topo
 kd : List KdcS
 cl : List ClS
 sv_ : List P2
 ac : List AcS
 net : List (Int × Int × MS)
 seen : Nat
 ck : List (Int × Int)
 dr : Nat
 acc : List AccS
 iss : Nat
def nowM (ck : List (Int × Int)) (n : Int) : Int := match ck.find? fun x => decide (x.1 = n) with
 | some x => x.2
 | none => 0
def setCk (ck : List (Int × Int)) (n z : Int) : List (Int × Int) := if ck.any fun x => decide (x.1 = n) then ck.map fun x => if x.1 = n then (n, z) else x else ck ++ [(n, z)]
def idxR (l : List S) (r : S) : Int := idxF (fun y => decide (y = r)) l 0
def sendM (w : WS) (fr : Int) (r : S) (m : MS) : Option WS :=
 if 0 ≤ idxR w.T.rs r then
  if w.net.length < 32 && m.okb && nb w.seen then some { w with net := w.net ++ [(fr, idxR w.T.rs r, m)], seen := w.seen + 1 } else none
 else none
def chaseW (w : WS) (c s : Nat) : Option WS :=
 match w.cl[c]?, w.sv_[s]? with
 | some x, some t =>
  match chaseM x t (nowM w.ck (100 + c)) with
  | some (x', r, m) => sendM { w with cl := w.cl.set c x' } (100 + c) r m
  | none => none
 | _, _ => none
def askW (w : WS) (c s : Nat) : Option (Option WS) :=
 match w.cl[c]?, w.sv_[s]? with
 | some x, some t =>
  match askM x t (nowM w.ck (100 + c)) with
  | some (some (x', m)) => if w.net.length < 32 && m.okb && nb w.seen then some (some { w with cl := w.cl.set c x', net := w.net ++ [((100 + c : Int), (200 + s : Int), m)], seen := w.seen + 1 }) else none
  | some none => some none
  | none => none
 | _, _ => none
def deliverW (w : WS) : Option WS :=
 match w.net with
 | [] => none
 | (fr, to, m) :: net =>
  if 0 ≤ to ∧ to < w.kd.length then
   match w.kd[to.toNat]? with
   | some k =>
    match handleM w.T k m (nowM w.ck to) w.dr with
    | some (k', m') => if net.length < 32 && m'.okb && nb w.seen && nb w.dr && nb w.iss then some { w with kd := w.kd.set to.toNat k', dr := w.dr + 1, net := net ++ [(to, fr, m')], seen := w.seen + 1, iss := w.iss + 1 } else none
    | none => none
   | none => none
  else if 100 ≤ to ∧ to < 100 + w.cl.length then
   match w.cl[(to - 100).toNat]? with
   | some c =>
    match takeM c m (nowM w.ck to) with
    | some (c', some (r, m')) => sendM { w with cl := w.cl.set (to - 100).toNat c', net := net } to r m'
    | some (c', none) => if idxR w.T.rs [] < 0 then some { w with cl := w.cl.set (to - 100).toNat c', net := net } else none
    | none => none
   | none => none
  else if 200 ≤ to ∧ to < 200 + w.ac.length then
   match w.ac[(to - 200).toNat]? with
   | some a =>
    match acceptM w.T a m (nowM w.ck to) with
    | some (a', some x) => if nb w.acc.length then some { w with ac := w.ac.set (to - 200).toNat a', acc := w.acc ++ [x], net := net } else none
    | some (a', none) => some { w with ac := w.ac.set (to - 200).toNat a', net := net }
    | none => none
   | none => none
  else none
def tickW (w : WS) (node by_ : Int) : Option WS :=
 if (100 ≤ node ∧ node < 100 + w.cl.length ∨ 200 ≤ node ∧ node < 200 + w.ac.length) ∧ 0 ≤ by_ ∧ by_ ≤ 1000 ∧ 0 ≤ nowM w.ck node ∧ nowM w.ck node ≤ 1073741824 then some { w with ck := setCk w.ck node (min (nowM w.ck node + by_) 1073741824) } else none
def addR (its : List RI) (p : P2) (k : Nat) : Option (List RI) :=
 match lastAt (isP p) its 0 with
 | some _ => none
 | none => if okPb p && decide (its.length < 40) then some (its ++ [⟨p, 1, k⟩]) else none
def realmsM (T : Topo) : List S → Nat → Option (List KdcS)
 | [], _ => some []
 | r :: rs, d => match addR [] (r, grantS ++ r) d with
  | some its => (realmsM T rs (d + 1)).map fun l => ⟨r, 0, 0, its⟩ :: l
  | none => none
def addK (kd : List KdcS) (i : Nat) (p : P2) (d : Nat) : Option (List KdcS) :=
 match kd[i]? with
 | some k => (addR k.its p d).map fun its => kd.set i ⟨k.r, k.n, k.iss, its⟩
 | none => none
def atR (T : Topo) (kd : List KdcS) (r : S) (p : P2) (d : Nat) : Option (List KdcS) :=
 if 0 ≤ idxR T.rs r then addK kd (idxR T.rs r).toNat p d else none
def linksM (T : Topo) : List P2 → List KdcS → Nat → Option (List KdcS)
 | [], kd, _ => some kd
 | l :: ls, kd, d => match atR T kd l.1 (l.1, grantS ++ l.2) d with
  | some kd1 => match atR T kd1 l.2 (l.1, grantS ++ l.2) d with
   | some kd2 => linksM T ls kd2 (d + 1)
   | none => none
  | none => none
def usersM (T : Topo) : List P2 → List KdcS → Nat → Option (List KdcS)
 | [], kd, _ => some kd
 | p :: ps, kd, d => match atR T kd p.1 p d with
  | some kd1 => usersM T ps kd1 (d + 1)
  | none => none
def initM (T : Topo) (cs ss : List P2) : Option WS :=
 if topoOk T && decide (cs.length ≤ 3) && decide (ss.length ≤ 3) && ((cs ++ ss).all fun p => isUserB p && decide (p.1 ∈ T.rs)) && decide (cs ++ ss).Nodup && (T.rs.all fun r => decide (r.length ≤ 1000)) && (T.ls.all fun l => decide (l.2.length ≤ 1000)) then
  match realmsM T T.rs 0 with
  | some kd0 => match linksM T T.ls kd0 T.rs.length with
   | some kd1 => match usersM T cs kd1 (T.rs.length + T.ls.length) with
    | some kd2 => match usersM T ss kd2 (T.rs.length + T.ls.length + cs.length) with
     | some kd3 => some ⟨T, kd3, (cs.zipIdx (T.rs.length + T.ls.length)).map fun x => ⟨x.1, x.2, [], 0, 0, 0, 0, 0, ([], []), [], none⟩, ss, (ss.zipIdx (T.rs.length + T.ls.length + cs.length)).map fun x => ⟨x.1, x.2, []⟩, [], 0, [], T.rs.length + T.ls.length + cs.length + ss.length, [], 0⟩
     | none => none
    | none => none
   | none => none
  | none => none
 else none
end Go.Proofs.YtbalcgjphkdecaaGreatDoor.To
namespace Go.Proofs.YtbalcgjphkdecaaGreatDoor.To
open Go.RowKit Go.Lg
set_option maxRecDepth 100000
theorem K_len (i : Nat) : (K i).length = 32 := Sp.stm_len _ _ _
def isBx (kb : Nat) (kk : Bs) : Obj → Prop := fun o => ∃ x : Int × Int × Int, isC 234 (Se.BC kb kk x.1 x.2.1 x.2.2) o
def isKy (kk : Bs) : Obj → Prop := fun o => ∃ m : Bool, isC 161 (Sp.kst (kk.take 16) m) o
structure RB where
 it : RI
 xb : Nat
 kb : Nat
def itC (x : RB) : List Value := [sv x.it.p.1, sv x.it.p.2, iv x.it.kv] ++ ((K x.it.k).map bv ++ [ptr x.xb])
theorem itC_len (x : RB) : (itC x).length = 36 := by simp [itC, K_len]
theorem itC_box (x : RB) : (itC x)[35]? = some (ptr x.xb) := by
 unfold itC
 rw [List.getElem?_append_right (by simp), List.getElem?_append_right (by simp [K_len])]
 simp [K_len]
def boxE (x : RB) : List Ent := [(x.xb, isBx x.kb (K x.it.k)), (x.kb, isKy (K x.it.k))]
def ringH (rb : Nat) (v : Value) (le : List Ent) (bl : List RB) : List Ent := (rb, isC 164 [v]) :: (le ++ bl.flatMap boxE)
def RingB (rb : Nat) (bl : List RB) (H : List Ent) : Prop := ∃ v le, Lg.Own 170 36 v bl.length (bl.flatMap itC) le ∧ H = ringH rb v le bl
section
variable {P : Program} {ρ : Operand → Value} {d : Option Tmp} {ty : TypeId} {pos : String} {af : Array Edge} {gd : Option (Nat × Bool)} {W : World} {l : List Ent} {Ψ : Value → List Ent → Prop}
theorem e_loadSN {t : TypeId} {x : Operand} {b o n : Nat} {cs : List Value} [ha : Agg P t true] [hs : Sz P t n] (hn : cs.length = n) (hx : ρ x = .pointer (some ⟨b, o, none⟩)) (hc : ∀ w, SH W l w → ∀ j u, cs[j]? = some u → w.cell? ⟨b, o + j, none⟩ = some u) (h : Ψ (.agg cs.toArray) l) : Eff P W l ⟨d, .load t x, ty, pos, af, gd⟩ ρ Ψ := by
 subst hn
 exact e_loadSA hx hc h
theorem Tr.hid {ι : Type} {g : FuncId} {args : Array Value} {Φ : Value → List Ent → Prop} {b : Nat} {p : ι → Obj → Prop} (h : ∀ i, Tr P g args W ((b, p i) :: l) Φ) : Tr P g args W ((b, fun o => ∃ i, p i o) :: l) Φ := fun w hs => by
 obtain ⟨_, o, ho, i, hi⟩ := hs.at_ (i := 0) rfl
 refine h i w ⟨hs.below, hs.nodup, fun e he => ?_⟩
 rcases List.mem_cons.1 he with rfl | he
 ·exact ⟨(hs.ents _ (List.mem_cons_self ..)).1, o, ho, hi⟩
 ·exact hs.ents e (List.mem_cons_of_mem _ he)
def Imp (l l' : List Ent) : Prop := ∀ W w, SH W l w → SH W l' w
theorem Imp.trans {a b c : List Ent} (h : Imp a b) (h' : Imp b c) : Imp a c := fun W w x => h' W w (h W w x)
theorem Imp.perm {a b : List Ent} (h : a.Perm b) : Imp a b := fun _ _ x => x.perm h
theorem Imp.hd2 {b c : Nat} {p p' q q' : Obj → Prop} {r : List Ent} (h : ∀ o, p o → p' o) (h' : ∀ o, q o → q' o) : Imp ((b, p) :: (c, q) :: r) ((b, p') :: (c, q') :: r) := fun W w x => SH.weaken1 (pre := [(b, p')]) (SH.weaken1 (pre := []) x h) h'
theorem Imp.at_ {b : Nat} {p p' : Obj → Prop} (pre : List Ent) {r : List Ent} (h : ∀ o, p o → p' o) : Imp (pre ++ ((b, p) :: r)) (pre ++ ((b, p') :: r)) := fun _ _ x => SH.weaken1 x h
theorem Tr.out {g : FuncId} {args : Array Value} {Φ Φ' : Value → List Ent → Prop} (h : Tr P g args W l Φ) (hp : ∀ v l', Φ v l' → ∃ l'', Imp l' l'' ∧ Φ' v l'') : Tr P g args W l Φ' := fun w hs => (h w hs).mono fun e w' => by
 rintro ⟨v, l', h1, h2, h3⟩
 obtain ⟨l'', h4, h5⟩ := hp v l' h3
 exact ⟨v, l'', h1, h4 W w' h2, h5⟩
theorem JC.imp {n : Nat} {c : Code} {K : Kont} {f : Fr} {l' : List Ent} (hi : Imp l l') (h : JC P n W c K f l') : JC P n W c K f l := fun w hs => h w (hi W w hs)
end
attribute [local irreducible] JC JL JD RN RT Eff Yld YldIf Tr partsL okR splitL wordB joinD fit betweenS laidS viaS De.wrapB De.num De.clampI K
theorem lastF_ok {bp : Nat} {p : P2} (x : RB) {W : World} {l : List Ent} (he : (bp, isC 48 (enc2 p)) ∈ l) : Tr Pg 112 #[.agg (itC x).toArray, ptr bp] W l fun v l' => v = .bool (isP p x.it) ∧ l' = l := by
 obtain ⟨i, hi⟩ := List.mem_iff_getElem?.1 he
 refine Tr.of_code (args := [_, _]) Tryz.func112 rfl Tryz.ntmps112 lE_ ?_
 refine AU0 ?_
 refine JLs (e_box (cs := itC x) rfl rfl fun bx => ?_)
 refine AU0 ?_
 refine JL.read 0 rfl rfl (r_loadA (v := enc2 x.it.p) rfl (by rw [itC_len]; decide) rfl) ?_
 refine JL.read (i + 1) hi rfl (r_loadW rfl rfl) ?_
 repeat (first | refine JLp (y_eqlAns (r := isP p x.it) rfl rfl (eq_princ x.it.p p) (by decide)) ?_ | refine AS0 ?_)
 exact JC.sub (List.sublist_cons_self _ _) (JC.ret (RT.one rfl rfl (by conv => lhs; whnf) ⟨rfl, rfl⟩))
theorem boxF_ok {bp bk : Nat} {p : P2} {kv : Nat} (x : RB) {W : World} {l : List Ent} (he : (bp, isC 48 (enc2 p)) ∈ l) (hk : (bk, isC 3 [iv kv]) ∈ l) : Tr Pg 217 #[.agg (itC x).toArray, ptr bp, ptr bk] W l fun v l' => v = .bool (isPk p kv x.it) ∧ l' = l := by
 obtain ⟨i, hi⟩ := List.mem_iff_getElem?.1 he
 obtain ⟨j, hj⟩ := List.mem_iff_getElem?.1 hk
 refine Tr.of_code (args := [_, _, _]) Tryz.func217 rfl Tryz.ntmps217 lE_ ?_
 refine AU0 ?_
 refine JLs (e_box (cs := itC x) rfl rfl fun bx => ?_)
 refine AU0 ?_
 refine JL.read 0 rfl rfl (r_loadA (v := enc2 x.it.p) rfl (by rw [itC_len]; decide) rfl) ?_
 refine JL.read (i + 1) hi rfl (r_loadW rfl rfl) ?_
 unfold isPk
 by_cases h1 : x.it.p = p
 ·repeat (first | refine JLp (y_eqlAns (r := true) rfl rfl (by rw [← decide_eq_true h1]; exact eq_princ x.it.p p) (by decide)) ?_ | refine AS1 ?_)
  refine JL.read (j + 1) hj rfl (r_load1 rfl rfl) ?_
  by_cases h2 : x.it.kv = kv
  ·repeat (first | refine JLp (y_eql (r := true) rfl rfl (decide_eq_true (by omega))) ?_ | refine AS0 ?_)
   exact JC.sub (List.sublist_cons_self _ _) (JC.ret (RT.one rfl rfl (by conv => lhs; whnf) ⟨by rw [decide_eq_true h1, decide_eq_true h2]; rfl, rfl⟩))
  ·repeat (first | refine JLp (y_eql (r := false) rfl rfl (decide_eq_false (by omega))) ?_ | refine AS0 ?_)
   exact JC.sub (List.sublist_cons_self _ _) (JC.ret (RT.one rfl rfl (by conv => lhs; whnf) ⟨by rw [decide_eq_true h1, decide_eq_false h2]; rfl, rfl⟩))
 ·repeat (first | refine JLp (y_eqlAns (r := false) rfl rfl (by rw [← decide_eq_false h1]; exact eq_princ x.it.p p) (by decide)) ?_ | refine AS1 ?_)
  exact JC.sub (List.sublist_cons_self _ _) (JC.ret (RT.one rfl rfl (by conv => lhs; whnf) ⟨by rw [decide_eq_false h1]; rfl, rfl⟩))
def ItAt (W : World) (H : List Ent) (a : Addr) (x : RB) : Prop := ∀ l, (∀ e ∈ H, e ∈ l) → ∀ w, SH W l w → ∀ j u, (itC x)[j]? = some u → w.cell? ⟨a.block, a.off + j, none⟩ = some u
set_option maxHeartbeats 1000000 in
theorem find_ok {rb : Nat} {bl : List RB} {H r : List Ent} {W : World} (hB : RingB rb bl H) (hm : bl.length ≤ 1000) {g : FuncId} {cap : Array Value} (p : RB → Bool) (hg : FnT Pg g) (hp : ∀ x ∈ bl, Tr Pg g (.agg (itC x).toArray :: cap.toList).toArray W (H ++ r) fun v l' => v = .bool (p x) ∧ l' = H ++ r) :
  Tr Pg 111 #[ptr rb, .func (.func g) #[] cap] W (H ++ r) fun v l' => l' = H ++ r ∧ ((∃ (g : Nat) (i : Nat) (x : RB) (tot : Nat) (rest : List Ent) (e0 : Ent), v = .pointer (some ⟨g, 0 + i * 36, none⟩) ∧ bl[i]? = some x ∧ p x = true ∧ (∀ j y, i < j → bl[j]? = some y → p y = false) ∧ H = e0 :: (g, isR 170 tot (bl.flatMap itC)) :: rest) ∨ ((∀ y ∈ bl, p y = false) ∧ v = .pointer none)) := by
 obtain ⟨v, le, ho, rfl⟩ := hB
 obtain ⟨A, c, rfl, hs, hc⟩ := ho.src (W := W)
 refine Tr.of_code (args := [_, _]) Tryz.func111 rfl Tryz.ntmps111 lE_ ?_
 unfold ringH
 rw [List.cons_append]
 refine AU1 ?_
 refine JC.loop (fun m f l1 => ∃ k, k = m ∧ k ≤ bl.length ∧ (∀ j y, k ≤ j → bl[j]? = some y → p y = false) ∧ FrOk f [(0, ptr rb), (1, .func (.func g) #[] cap), (5, iv ((k : Int) - 1))] ∧ l1 = (rb, isC 164 [.slice A bl.length c]) :: (le ++ bl.flatMap boxE ++ r)) bl.length ?_ ?_
 ·exact ⟨_, rfl, Nat.le_refl _, fun j y hj hy => by have := (List.getElem?_eq_some_iff.1 hy).1; omega, ⟨rfl, rfl, rfl, trivial⟩, rfl⟩
 rintro m f l1 ⟨k, rfl, hk, hno, hf, rfl⟩
 refine JC.frame _ hf fun f' => ?_
 by_cases h0 : 0 < k
 ·obtain ⟨q, rfl⟩ : ∃ q, k = q + 1 := ⟨k - 1, by omega⟩
  have hq : q < bl.length := by omega
  have hx := List.getElem?_eq_getElem hq
  obtain ⟨g0, cap0, hv0, -, -, rfl⟩ := De.own_some ho (by omega)
  cases hv0
  obtain ⟨b, o, hbo, hat⟩ := hs.at_ (by rw [row_len itC itC_len]; omega)
  cases hbo
  have hcell : ItAt W (ringH rb (.slice (some ⟨g0, 0, none⟩) bl.length c) [(g0, isR 170 (c * 36) (bl.flatMap itC))] bl) ⟨g0, 0 + q * 36, none⟩ (bl[q]'hq) := fun l hl => Src.elem itC itC_len hat (fun e he => hl e (List.mem_cons_of_mem _ (List.mem_append_left _ he))) hx
  rw [show (((q + 1 : Nat) : Int) - 1) = (q : Int) by omega]
  refine AU1 ?_
  refine JLs (e_loadSN (itC_len (bl[q]'hq)) rfl (hcell _ (fun e he => List.mem_append_left r he)) ?_)
  refine JLs (e_call rfl rfl (hp _ (List.getElem_mem hq)) ?_)
  rintro v l' ⟨rfl, rfl⟩
  refine JL.cast (l' := (rb, isC 164 [.slice (some ⟨g0, 0, none⟩) bl.length c]) :: ([(g0, isR 170 (c * 36) (bl.flatMap itC))] ++ bl.flatMap boxE ++ r)) rfl ?_
  cases hpx : p (bl[q]'hq) with
  | true =>
   refine AU1 ?_
   exact JC.ret (RT.one rfl rfl (by conv => lhs; whnf) ⟨rfl, .inl ⟨g0, q, _, _, _, _, rfl, hx, hpx, fun j y hj hy => hno j y (by omega) hy, rfl⟩⟩)
  | false =>
   refine AU1 ?_
   refine RN.loop (m' := q) (by omega) ⟨q, rfl, by omega, fun j y hj hy => ?_, ⟨rfl, rfl, rfl, trivial⟩, rfl⟩
   by_cases hjq : j = q
   ·subst hjq
    rw [hx] at hy
    cases hy
    exact hpx
   ·exact hno j y (by omega) hy
 ·obtain rfl : k = 0 := by omega
  refine AU0 ?_
  refine JC.ret (RT.one rfl rfl (by conv => lhs; whnf) ⟨rfl, .inr ⟨fun y hy => ?_, rfl⟩⟩)
  obtain ⟨j, hj⟩ := List.mem_iff_getElem?.1 hy
  exact hno j y (Nat.zero_le _) hj
end Go.Proofs.YtbalcgjphkdecaaGreatDoor.To
namespace Go.Proofs.YtbalcgjphkdecaaGreatDoor.To
open Go.RowKit Go.Lg
set_option maxRecDepth 100000
theorem lastRB {bl : List RB} {q : RI → Bool} {i k : Nat} {x : RB} {it : RI} (hi : bl[i]? = some x) (hq : q x.it = true) (hno : ∀ j y, i < j → bl[j]? = some y → q y.it = false) (h : lastAt q (bl.map RB.it) 0 = some (k, it)) : k = i ∧ it = x.it := by
 obtain ⟨j, h1, h2, h3, h4⟩ := lastAt_some q _ 0 k it h
 obtain rfl : k = j := by omega
 have hx' : (bl.map RB.it)[i]? = some x.it := by rw [List.getElem?_map, hi]; rfl
 have hki : k = i := by
  rcases Nat.lt_trichotomy k i with hlt | he | hlt
  ·rw [h4 i _ hlt hx'] at hq
   cases hq
  ·exact he
  ·rw [List.getElem?_map] at h2
   cases hy : bl[k]? with
   | none => rw [hy] at h2; cases h2
   | some y =>
    rw [hy] at h2
    cases h2
    rw [hno k y hlt hy] at h3
    cases h3
 subst hki
 rw [hx'] at h2
 cases h2
 exact ⟨rfl, rfl⟩
theorem lastRB_none {bl : List RB} {q : RI → Bool} {i : Nat} {x : RB} (hi : bl[i]? = some x) (hq : q x.it = true) (h : lastAt q (bl.map RB.it) 0 = none) : False := by
 have := lastAt_none q _ 0 h x.it (List.mem_map_of_mem (List.mem_of_getElem? hi))
 rw [hq] at this
 cases this
theorem lastRB_all {bl : List RB} {q : RI → Bool} (hall : ∀ y ∈ bl, q y.it = false) {k : Nat} {it : RI} (h : lastAt q (bl.map RB.it) 0 = some (k, it)) : False := by
 obtain ⟨j, h1, h2, h3, h4⟩ := lastAt_some q _ 0 k it h
 rw [List.getElem?_map] at h2
 cases hy : bl[j]? with
 | none => rw [hy] at h2; cases h2
 | some y =>
  rw [hy] at h2
  cases h2
  rw [hall y (List.mem_of_getElem? hy)] at h3
  cases h3
theorem item_cell {bl : List RB} {i : Nat} {x : RB} (hi : bl[i]? = some x) : (bl.flatMap itC)[0 + i * 36 + 35]? = some (ptr x.xb) := by
 rw [Nat.zero_add, row_at itC itC_len bl hi (by decide)]
 exact itC_box x
theorem item_kv {bl : List RB} {i : Nat} {x : RB} (hi : bl[i]? = some x) : (bl.flatMap itC)[0 + i * 36 + 2]? = some (iv x.it.kv) := by
 rw [Nat.zero_add, row_at itC itC_len bl hi (by decide)]
 rfl
attribute [local irreducible] JC JL JD RN RT Eff Yld YldIf Tr partsL okR splitL wordB joinD fit betweenS laidS viaS De.wrapB De.num De.clampI K
theorem ring_mid {H r : List Ent} {e : Ent} : (e :: (H ++ r)).Perm (H ++ (e :: r)) := List.perm_middle.symm
theorem last_ok {rb : Nat} {bl : List RB} {H r : List Ent} {W : World} (hB : RingB rb bl H) (hm : bl.length ≤ 1000) (p : P2) :
  Tr Pg 76 #[ptr rb, pv p] W (H ++ r) fun v l' => l' = H ++ r ∧ ((∃ (g : Nat) (i : Nat) (x : RB) (tot : Nat) (rest : List Ent) (e0 : Ent), v = .pointer (some ⟨g, 0 + i * 36, none⟩) ∧ bl[i]? = some x ∧ isP p x.it = true ∧ (∀ j y, i < j → bl[j]? = some y → isP p y.it = false) ∧ H = e0 :: (g, isR 170 tot (bl.flatMap itC)) :: rest) ∨ ((∀ y ∈ bl, isP p y.it = false) ∧ v = .pointer none)) := by
 refine Tr.of_code (args := [_, _]) Tryz.func76 rfl Tryz.ntmps76 lE_ ?_
 refine AU0 ?_
 refine JLs (e_box (cs := enc2 p) rfl rfl fun bp => ?_)
 repeat (first | refine JLp (y_makeFunc (v := .func (.func 112) #[] #[ptr bp]) (by simp only [List.map_toArray, List.map_cons, List.map_nil]; rfl)) ?_ | refine AS0 ?_)
 refine JLs (e_call rfl rfl (Tr.perm ring_mid (find_ok (cap := #[ptr bp]) hB hm (fun x => isP p x.it) inferInstance (fun x hx => lastF_ok x (by simp)))) ?_)
 rintro v l' ⟨rfl, h⟩
 refine JL.perm (ring_mid (H := H) (r := r) (e := (bp, isC 48 (enc2 p)))).symm ?_
 refine AU0 ?_
 exact JC.sub (List.sublist_cons_self _ _) (JC.ret (RT.one rfl rfl (by conv => lhs; whnf) ⟨rfl, h⟩))
set_option maxHeartbeats 1000000 in
theorem Last_ok {rb : Nat} {bl : List RB} {H r : List Ent} {W : World} (hB : RingB rb bl H) (hm : bl.length ≤ 1000) {p : P2} {k : Nat} {it : RI} (h : lastAt (isP p) (bl.map RB.it) 0 = some (k, it)) :
  Tr Pg 161 #[ptr rb, pv p] W (H ++ r) fun v l' => l' = H ++ r ∧ ∃ x, bl[k]? = some x ∧ x.it = it ∧ v = .tuple #[ptr x.xb, iv it.kv, iv 0] := by
 refine Tr.of_code (args := [_, _]) Tryz.func161 rfl Tryz.ntmps161 lE_ ?_
 refine AU0 ?_
 refine JLs (e_box (cs := enc2 p) rfl rfl fun bp => ?_)
 refine AU1 ?_
 refine JLs (e_call rfl rfl (Tr.perm ring_mid (last_ok hB hm p)) ?_)
 rintro v l' ⟨rfl, ⟨g, i, x, tot, rest, e0, rfl, hi, hx, hno, rfl⟩ | ⟨hall, -⟩⟩
 ·obtain ⟨rfl, rfl⟩ := lastRB hi hx hno h
  refine JL.cast (l' := e0 :: (g, isR 170 tot (bl.flatMap itC)) :: (rest ++ ((bp, isC 48 (enc2 p)) :: r))) rfl ?_
  refine AU0 ?_
  refine JC.drawn 11 rfl mixed ?_
  refine JDp 0 rfl y_mv ?_
  refine JDp 1 rfl (y_nilCheck rfl) ?_
  refine JDp 2 rfl (y_fieldAddr rfl) ?_
  refine JDr 3 1 rfl rfl (r_loadR1 rfl (item_cell hi)) ?_
  refine JDp 4 rfl y_mv ?_
  refine JDp 5 rfl (y_nilCheck rfl) ?_
  refine JDp 6 rfl (y_fieldAddr rfl) ?_
  refine JDr 7 1 rfl rfl (r_loadR1 rfl (item_kv hi)) ?_
  refine JDp 8 rfl y_as ?_
  refine JDp 9 rfl y_as ?_
  refine JDp 10 rfl y_as ?_
  refine JDd ?_
  refine AU0 ?_
  refine JC.sub (l' := e0 :: (g, isR 170 tot (bl.flatMap itC)) :: (rest ++ r)) (List.Sublist.cons_cons _ (List.Sublist.cons_cons _ (List.Sublist.append_left (List.sublist_cons_self _ _) _))) ?_
  exact JC.ret (RT.three rfl rfl rfl rfl rfl ⟨rfl, x, hi, rfl, rfl⟩)
 ·exact (lastRB_all hall h).elim
set_option maxHeartbeats 1000000 in
theorem Box_ok {rb : Nat} {bl : List RB} {H r : List Ent} {W : World} (hB : RingB rb bl H) (hm : bl.length ≤ 1000) {p : P2} {kv k : Nat} {it : RI} (h : lastAt (isPk p kv) (bl.map RB.it) 0 = some (k, it)) :
  Tr Pg 179 #[ptr rb, pv p, iv kv] W (H ++ r) fun v l' => l' = H ++ r ∧ ∃ x, bl[k]? = some x ∧ x.it = it ∧ v = .tuple #[ptr x.xb, iv 0] := by
 refine Tr.of_code (args := [_, _, _]) Tryz.func179 rfl Tryz.ntmps179 lE_ ?_
 refine AU0 ?_
 refine JLs (e_box (cs := enc2 p) rfl rfl fun bp => ?_)
 refine JLs (e_box (cs := [iv kv]) rfl rfl fun bk => ?_)
 repeat (first | refine JLp (y_makeFunc (v := .func (.func 217) #[] #[ptr bp, ptr bk]) (by simp only [List.map_toArray, List.map_cons, List.map_nil]; rfl)) ?_ | refine AS0 ?_)
 refine JLs (e_call rfl rfl (Tr.perm (l' := H ++ ((bk, isC 3 [iv kv]) :: (bp, isC 48 (enc2 p)) :: r)) prm_ (find_ok (cap := #[ptr bp, ptr bk]) hB hm (fun x => isPk p kv x.it) inferInstance (fun x hx => boxF_ok x (by simp) (by simp)))) ?_)
 rintro v l' ⟨rfl, ⟨g, i, x, tot, rest, e0, rfl, hi, hx, hno, rfl⟩ | ⟨hall, -⟩⟩
 ·obtain ⟨rfl, rfl⟩ := lastRB hi hx hno h
  refine JL.cast (l' := e0 :: (g, isR 170 tot (bl.flatMap itC)) :: (rest ++ ((bk, isC 3 [iv kv]) :: (bp, isC 48 (enc2 p)) :: r))) rfl ?_
  refine AU0 ?_
  refine JL.read 1 rfl rfl (r_loadR1 rfl (item_cell hi)) ?_
  refine AU0 ?_
  refine JC.sub (l' := e0 :: (g, isR 170 tot (bl.flatMap itC)) :: (rest ++ r)) (List.Sublist.cons_cons _ (List.Sublist.cons_cons _ (List.Sublist.append_left ((List.sublist_cons_self _ _).trans (List.sublist_cons_self _ _)) _))) ?_
  exact JC.ret (RT.two rfl rfl rfl rfl ⟨rfl, x, hi, rfl, rfl⟩)
 ·exact (lastRB_all hall h).elim
theorem RNew_ok {W : World} {r : List Ent} : Tr Pg 37 #[] W r fun v l' => ∃ rb H, v = ptr rb ∧ RingB rb [] H ∧ l' = H ++ r := by
 refine Tr.of_code (args := []) Tryz.func37 rfl Tryz.ntmps37 lE_ ?_
 repeat (first | refine JLp (y_build (cells := #[.slice none 0 0]) rfl) ?_ | refine AS0 ?_)
 refine JLs (e_box (cs := [.slice none 0 0]) rfl rfl fun rb => ?_)
 refine AU0 ?_
 exact JC.ret (RT.one rfl rfl (v := ptr rb) rfl ⟨rb, _, rfl, ⟨_, [], Lg.Own.nil .., rfl⟩, rfl⟩)
set_option maxHeartbeats 4000000 in
theorem Add_ok {rb : Nat} {bl : List RB} {H r : List Ent} {W : World} (hB : RingB rb bl H) {p : P2} (hp : okP p) (hm : bl.length < 40) (h : lastAt (isP p) (bl.map RB.it) 0 = none) (k : Nat) :
  Tr Pg 38 #[ptr rb, pv p, .agg ((K k).map bv).toArray] W (H ++ r) fun v l' => v = .tuple #[iv 1, iv 0] ∧ ∃ xb kb H', RingB rb (bl ++ [⟨⟨p, 1, k⟩, xb, kb⟩]) H' ∧ l' = H' ++ r := by
 obtain ⟨ka, kbb, kc, kd, ke, kf, kg, ki, kj, kk, kl, km, kn, ko, kp, kq, kA, kB, kC, kD, kE, kF, kG, kI, kJ, kK, kL, kM, kN, kO, kP, kQ, hk⟩ := len32 (K_len k)
 rw [hk]
 refine Tr.of_code (args := [_, _, _]) Tryz.func38 rfl Tryz.ntmps38 lE_ ?_
 refine AU0 ?_
 refine JLs (e_box (cs := enc2 p) rfl rfl fun b4 => ?_)
 refine JLs (e_box (cs := [bv ka, bv kbb, bv kc, bv kd, bv ke, bv kf, bv kg, bv ki, bv kj, bv kk, bv kl, bv km, bv kn, bv ko, bv kp, bv kq, bv kA, bv kB, bv kC, bv kD, bv kE, bv kF, bv kG, bv kI, bv kJ, bv kK, bv kL, bv kM, bv kN, bv kO, bv kP, bv kQ]) rfl rfl fun b5 => ?_)
 refine AU2 ?_
 refine JLs (e_call rfl rfl (IsPrinc_yes hp) ?_)
 rintro v l' ⟨rfl, rfl⟩
 refine AU2 ?_
 refine JLs (e_call rfl rfl (Tr.perm (l' := H ++ ((b5, isC 55 [bv ka, bv kbb, bv kc, bv kd, bv ke, bv kf, bv kg, bv ki, bv kj, bv kk, bv kl, bv km, bv kn, bv ko, bv kp, bv kq, bv kA, bv kB, bv kC, bv kD, bv kE, bv kF, bv kG, bv kI, bv kJ, bv kK, bv kL, bv kM, bv kN, bv kO, bv kP, bv kQ]) :: (b4, isC 48 (enc2 p)) :: r)) prm_ (last_ok hB (by omega) p)) ?_)
 rintro v l' ⟨rfl, ⟨g, i, x, tot, rest, e0, -, hi, hx, -⟩ | ⟨-, rfl⟩⟩
 ·exact (lastRB_none hi hx h).elim
 obtain ⟨v, le, ho, rfl⟩ := hB
 obtain ⟨A, c, rfl, -, -⟩ := ho.src (W := W)
 refine JL.perm (l' := (rb, isC 164 [.slice A bl.length c]) :: (b5, isC 55 [bv ka, bv kbb, bv kc, bv kd, bv ke, bv kf, bv kg, bv ki, bv kj, bv kk, bv kl, bv km, bv kn, bv ko, bv kp, bv kq, bv kA, bv kB, bv kC, bv kD, bv kE, bv kF, bv kG, bv kI, bv kJ, bv kK, bv kL, bv kM, bv kN, bv kO, bv kP, bv kQ]) :: (b4, isC 48 (enc2 p)) :: (le ++ (bl.flatMap boxE ++ r))) (by unfold ringH; exact prm_) ?_
 refine AU1 ?_
 refine JC.drawn 16 rfl mixed ?_
 refine JDp 0 rfl y_mv ?_
 refine JDp 1 rfl y_mv ?_
 refine JDp 2 rfl (y_nilCheck rfl) ?_
 refine JDp 3 rfl (y_fieldAddr rfl) ?_
 refine JDr 4 0 rfl rfl (r_load1 rfl rfl) ?_
 refine JDr 5 2 rfl rfl (r_loadA rfl lE_ rfl) ?_
 refine JDp 6 rfl y_mv ?_
 refine JDr 7 1 rfl rfl (r_loadA rfl lE_ rfl) ?_
 refine JDr 8 1 rfl rfl (r_loadA rfl lE_ rfl) ?_
 refine JDe 9 rfl (e_call rfl rfl (Se.New_ok (kk := [ka, kbb, kc, kd, ke, kf, kg, ki, kj, kk, kl, km, kn, ko, kp, kq, kA, kB, kC, kD, kE, kF, kG, kI, kJ, kK, kL, kM, kN, kO, kP, kQ]) rfl) ?_)
 rintro v l' ⟨xb, kb, rfl, rfl⟩
 refine ⟨tok_, ?_⟩
 refine JDp 10 rfl (y_build (cells := ([sv p.1, sv p.2, iv 1, bv ka, bv kbb, bv kc, bv kd, bv ke, bv kf, bv kg, bv ki, bv kj, bv kk, bv kl, bv km, bv kn, bv ko, bv kp, bv kq, bv kA, bv kB, bv kC, bv kD, bv kE, bv kF, bv kG, bv kI, bv kJ, bv kK, bv kL, bv kM, bv kN, bv kO, bv kP, bv kQ, ptr xb]).toArray) (by kernel_rfl)) ?_
 refine JDe 11 rfl (e_buildSlice (cells := [sv p.1, sv p.2, iv 1, bv ka, bv kbb, bv kc, bv kd, bv ke, bv kf, bv kg, bv ki, bv kj, bv kk, bv kl, bv km, bv kn, bv ko, bv kp, bv kq, bv kA, bv kB, bv kC, bv kD, bv kE, bv kF, bv kG, bv kI, bv kJ, bv kK, bv kL, bv kM, bv kN, bv kO, bv kP, bv kQ, ptr xb]) [.agg ([sv p.1, sv p.2, iv 1, bv ka, bv kbb, bv kc, bv kd, bv ke, bv kf, bv kg, bv ki, bv kj, bv kk, bv kl, bv km, bv kn, bv ko, bv kp, bv kq, bv kA, bv kB, bv kC, bv kD, bv kE, bv kF, bv kG, bv kI, bv kJ, bv kK, bv kL, bv kM, bv kN, bv kO, bv kP, bv kQ, ptr xb]).toArray] rfl lE_ rfl (fun u hu => by cases List.mem_singleton.1 hu; rfl) rfl fun bs => ⟨tok_, ?_⟩)
 refine JDe 12 rfl (e_appendP [_, _, _, _, _, _] le rfl rfl ho rfl (news := [sv p.1, sv p.2, iv 1, bv ka, bv kbb, bv kc, bv kd, bv ke, bv kf, bv kg, bv ki, bv kj, bv kk, bv kl, bv km, bv kn, bv ko, bv kp, bv kq, bv kA, bv kB, bv kC, bv kD, bv kE, bv kF, bv kG, bv kI, bv kJ, bv kK, bv kL, bv kM, bv kN, bv kO, bv kP, bv kQ, ptr xb]) rfl (Src.whole (List.mem_cons_self ..)) (List.all_eq_true.1 rfl) (by omega) (by unfold maxLen; omega) fun v' le' ho' _ => ⟨tok_, ?_⟩)
 obtain ⟨g2, c2, rfl, -, -, -⟩ := De.own_some ho' (Nat.succ_pos _)
 refine JDp 13 rfl (y_nilCheck rfl) ?_
 refine JDp 14 rfl (y_fieldAddr rfl) ?_
 refine JDe 15 rfl (e_store 3 rfl rfl rfl (vs := [.slice (some ⟨g2, 0, none⟩) (bl.length + 1) c2]) rfl rfl rfl lE_ ⟨tok_, ?_⟩)
 refine JDd ?_
 refine RN.cast (l' := _ :: _ :: _ :: (rb, isC 164 [.slice (some ⟨g2, 0, none⟩) (bl.length + 1) c2]) :: (b5, isC 55 [bv ka, bv kbb, bv kc, bv kd, bv ke, bv kf, bv kg, bv ki, bv kj, bv kk, bv kl, bv km, bv kn, bv ko, bv kp, bv kq, bv kA, bv kB, bv kC, bv kD, bv kE, bv kF, bv kG, bv kI, bv kJ, bv kK, bv kL, bv kM, bv kN, bv kO, bv kP, bv kQ]) :: (b4, isC 48 (enc2 p)) :: (le' ++ (bl.flatMap boxE ++ r))) rfl ?_
 refine AU0 ?_
 refine JC.sub (l' := (xb, isC 234 (Se.BC kb [ka, kbb, kc, kd, ke, kf, kg, ki, kj, kk, kl, km, kn, ko, kp, kq, kA, kB, kC, kD, kE, kF, kG, kI, kJ, kK, kL, kM, kN, kO, kP, kQ] 0 0 0)) :: (kb, isC 161 (Sp.kst ([ka, kbb, kc, kd, ke, kf, kg, ki, kj, kk, kl, km, kn, ko, kp, kq, kA, kB, kC, kD, kE, kF, kG, kI, kJ, kK, kL, kM, kN, kO, kP, kQ].take 16) false)) :: ((rb, isC 164 [.slice (some ⟨g2, 0, none⟩) (bl.length + 1) c2]) :: (le' ++ (bl.flatMap boxE ++ r)))) (List.Sublist.cons _ (List.Sublist.cons_cons _ (List.Sublist.cons_cons _ (List.Sublist.cons_cons _ (List.Sublist.cons _ (List.sublist_cons_self _ _)))))) ?_
 refine JC.imp (Imp.hd2 (p' := isBx kb (K k)) (q' := isKy (K k)) (fun o ho => ⟨(0, 0, 0), by rw [hk]; exact ho⟩) (fun o ho => ⟨false, by rw [hk]; exact ho⟩)) ?_
 refine JC.perm (l' := (rb, isC 164 [.slice (some ⟨g2, 0, none⟩) (bl.length + 1) c2]) :: (le' ++ (bl.flatMap boxE ++ [(xb, isBx kb (K k)), (kb, isKy (K k))]) ++ r)) prm_ ?_
 refine JC.ret (RT.two rfl rfl (by conv => lhs; whnf) (by conv => lhs; whnf) ⟨rfl, xb, kb, ringH rb (.slice (some ⟨g2, 0, none⟩) (bl.length + 1) c2) le' (bl ++ [⟨⟨p, 1, k⟩, xb, kb⟩]), ⟨_, le', ?_, rfl⟩, ?_⟩)
 ·rw [List.length_append, List.flatMap_append]
  have : [(⟨⟨p, 1, k⟩, xb, kb⟩ : RB)].flatMap itC = [sv p.1, sv p.2, iv 1, bv ka, bv kbb, bv kc, bv kd, bv ke, bv kf, bv kg, bv ki, bv kj, bv kk, bv kl, bv km, bv kn, bv ko, bv kp, bv kq, bv kA, bv kB, bv kC, bv kD, bv kE, bv kF, bv kG, bv kI, bv kJ, bv kK, bv kL, bv kM, bv kN, bv kO, bv kP, bv kQ, ptr xb] := by unfold itC; rw [List.flatMap_singleton, hk]; rfl
  rw [this]
  exact ho'
 ·unfold ringH
  rw [List.flatMap_append]
  rfl
end Go.Proofs.YtbalcgjphkdecaaGreatDoor.To
namespace Go.Proofs.YtbalcgjphkdecaaGreatDoor.To
open Go.RowKit Go.Lg
set_option maxRecDepth 100000
theorem box_mid {bl : List RB} {k : Nat} {x : RB} (hx : bl[k]? = some x) : ∃ rest, (bl.flatMap boxE).Perm ((x.xb, isBx x.kb (K x.it.k)) :: (x.kb, isKy (K x.it.k)) :: rest) := by
 obtain ⟨a, b, rfl⟩ := List.append_of_mem (List.mem_of_getElem? hx)
 refine ⟨a.flatMap boxE ++ b.flatMap boxE, ?_⟩
 rw [List.flatMap_append, List.flatMap_cons]
 exact perm_mid (a.flatMap boxE) (boxE x) (b.flatMap boxE)
theorem ring_box {rb : Nat} {bl : List RB} {H : List Ent} (hB : RingB rb bl H) {k : Nat} {x : RB} (hx : bl[k]? = some x) : ∃ rest, H.Perm ((x.xb, isBx x.kb (K x.it.k)) :: (x.kb, isKy (K x.it.k)) :: rest) := by
 obtain ⟨v, le, -, rfl⟩ := hB
 obtain ⟨rest, h⟩ := box_mid hx
 unfold ringH
 refine ⟨(rb, isC 164 [v]) :: (le ++ rest), ?_⟩
 refine List.Perm.trans (List.Perm.cons _ (List.Perm.append_left le h)) ?_
 refine List.Perm.trans (List.Perm.cons _ (perm_mid' le rest)) ?_
 exact perm_mid' [_] (le ++ rest)
section
variable {W : World} {r : List Ent}
theorem Tr.box {g : FuncId} {args : Array Value} {Φ : Value → List Ent → Prop} {xb kb : Nat} {kk : Bs} (h : ∀ (s o q : Int) (m : Bool), Tr Pg g args W ((xb, isC 234 (Se.BC kb kk s o q)) :: (kb, isC 161 (Sp.kst (kk.take 16) m)) :: r) Φ) : Tr Pg g args W ((xb, isBx kb kk) :: (kb, isKy kk) :: r) Φ := by
 refine Tr.hid (ι := Int × Int × Int) (p := fun x => isC 234 (Se.BC kb kk x.1 x.2.1 x.2.2)) fun ⟨s, o, q⟩ => ?_
 refine Tr.perm (List.Perm.swap ..) (Tr.hid (ι := Bool) (p := fun m => isC 161 (Sp.kst (kk.take 16) m)) fun m => ?_)
 exact Tr.perm (List.Perm.swap ..) (h s o q m)
theorem BSeal_ok {xb kb : Nat} {kk : Bs} (hk : kk.length = 32) {u n : Nat} (hu : u ≤ 255) (hn : n ≤ 1000002) {bs : Bs} (hb : bs.length ≤ 784) {v : Value} (hv : BV W r v bs) : Tr Pg 121 #[ptr xb, iv u, iv n, v] W ((xb, isBx kb kk) :: (kb, isKy kk) :: r) fun v l' =>
  ∃ v1 le, v = .tuple #[v1, iv 0] ∧ OwnB v1 (Se.sealB kk u (BitVec.ofNat 64 n) bs) le ∧ l' = le ++ ((xb, isBx kb kk) :: (kb, isKy kk) :: r) := by
 obtain ⟨A, c, rfl, hs, hc, hnn⟩ := hv
 refine Tr.box fun s o q m => Tr.out (Se.Seal_ok (A := A) (cap := c) hk m u n ⟨by omega, by omega, by omega, by omega, hb⟩ rfl hnn hs) ?_
 rintro v l' ⟨v1, le, mm, rfl, ho, rfl⟩
 refine ⟨_, Imp.trans (Imp.at_ le (p' := isBx kb kk) fun o ho => ⟨(_, _, _), ho⟩) ?_, v1, le, rfl, ?_, rfl⟩
 ·have := Imp.at_ (le ++ [(xb, isBx kb kk)]) (b := kb) (p := isC 161 (Sp.kst (kk.take 16) mm)) (p' := isKy kk) (r := r) fun o ho => ⟨mm, ho⟩
  simpa only [List.append_assoc, List.cons_append, List.nil_append] using this
 ·have e := Se.sealB_len kk u (BitVec.ofNat 64 n) bs
  show Lg.Own _ _ _ (Se.sealB kk u (BitVec.ofNat 64 n) bs).length _ _
  rw [e]
  exact ho
theorem BOpen_ok {xb kb : Nat} {kk : Bs} (hk : kk.length = 32) {u n : Nat} (hu : u ≤ 255) (hn : n ≤ 1000002) {ps : Bs} (hb : ps.length ≤ 784) {v : Value} (hv : BV W r v (Se.sealB kk u (BitVec.ofNat 64 n) ps)) : Tr Pg 130 #[ptr xb, iv u, v] W ((xb, isBx kb kk) :: (kb, isKy kk) :: r) fun v l' =>
  ∃ v1 le, v = .tuple #[v1, iv 0] ∧ OwnB v1 ps le ∧ l' = le ++ ((xb, isBx kb kk) :: (kb, isKy kk) :: r) := by
 obtain ⟨A, c, rfl, hs, hc, hnn⟩ := hv
 have hop := Se.open_seal kk u n ps (by omega) hb
 refine Tr.box fun s o q m => Tr.out (Se.Open_ok (A := A) (cap := c) hk m u hu rfl hc hs) ?_
 rintro v l' (⟨ps', v1, le, mm, h1, rfl, ho, rfl⟩ | ⟨h1, -⟩)
 ·rw [hop] at h1
  cases h1
  refine ⟨_, Imp.trans (Imp.at_ le (p' := isBx kb kk) fun o ho => ⟨(_, _, _), ho⟩) ?_, v1, le, rfl, ho, rfl⟩
  have := Imp.at_ (le ++ [(xb, isBx kb kk)]) (b := kb) (p := isC 161 (Sp.kst (kk.take 16) mm)) (p' := isKy kk) (r := r) fun o ho => ⟨mm, ho⟩
  simpa only [List.append_assoc, List.cons_append, List.nil_append] using this
 ·rw [hop] at h1
  cases h1
theorem RSeal_ok {rb : Nat} {bl : List RB} {H : List Ent} (hB : RingB rb bl H) {k : Nat} {x : RB} (hx : bl[k]? = some x) {u n : Nat} (hu : u ≤ 255) (hn : n ≤ 1000002) {bs : Bs} (hb : bs.length ≤ 784) {v : Value} (hv : BV W r v bs) : Tr Pg 121 #[ptr x.xb, iv u, iv n, v] W (H ++ r) fun v l' =>
  ∃ v1 le, v = .tuple #[v1, iv 0] ∧ OwnB v1 (Se.sealB (K x.it.k) u (BitVec.ofNat 64 n) bs) le ∧ l' = le ++ (H ++ r) := by
 obtain ⟨rest, hp⟩ := ring_box hB hx
 refine Tr.perm (List.Perm.append_right r hp) (Tr.out (BSeal_ok (r := rest ++ r) (K_len _) hu hn hb (hv.mono fun e he => by simp [he])) ?_)
 rintro v l' ⟨v1, le, rfl, ho, rfl⟩
 exact ⟨_, Imp.perm (List.Perm.append_left le (List.Perm.append_right r hp).symm), v1, le, rfl, ho, rfl⟩
theorem ROpen_ok {rb : Nat} {bl : List RB} {H : List Ent} (hB : RingB rb bl H) {k : Nat} {x : RB} (hx : bl[k]? = some x) {u n : Nat} (hu : u ≤ 255) (hn : n ≤ 1000002) {ps : Bs} (hb : ps.length ≤ 784) {v : Value} (hv : BV W r v (Se.sealB (K x.it.k) u (BitVec.ofNat 64 n) ps)) : Tr Pg 130 #[ptr x.xb, iv u, v] W (H ++ r) fun v l' =>
  ∃ v1 le, v = .tuple #[v1, iv 0] ∧ OwnB v1 ps le ∧ l' = le ++ (H ++ r) := by
 obtain ⟨rest, hp⟩ := ring_box hB hx
 refine Tr.perm (List.Perm.append_right r hp) (Tr.out (BOpen_ok (r := rest ++ r) (K_len _) hu hn hb (hv.mono fun e he => by simp [he])) ?_)
 rintro v l' ⟨v1, le, rfl, ho, rfl⟩
 exact ⟨_, Imp.perm (List.Perm.append_left le (List.Perm.append_right r hp).symm), v1, le, rfl, ho, rfl⟩
theorem BNew_ok {kk : Bs} (hk : kk.length = 32) : Tr Pg 77 #[.agg (kk.map bv).toArray] W r fun v l' => ∃ xb kb, v = ptr xb ∧ l' = (xb, isBx kb kk) :: (kb, isKy kk) :: r :=
 Tr.out (Se.New_ok hk) fun v l' ⟨xb, kb, h1, h2⟩ => by
  subst h2
  exact ⟨_, Imp.hd2 (fun o ho => ⟨(0, 0, 0), ho⟩) (fun o ho => ⟨false, ho⟩), xb, kb, h1, rfl⟩
end
end Go.Proofs.YtbalcgjphkdecaaGreatDoor.To
