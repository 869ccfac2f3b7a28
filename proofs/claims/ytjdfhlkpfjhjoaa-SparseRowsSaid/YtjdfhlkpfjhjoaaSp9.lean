/- The reference's rows and vectors of small numbers, and its Merge, walked. -/
import Derived.Test.YtjdfhlkpfjhjoaaSp8
set_option linter.unusedSimpArgs false
set_option linter.unusedVariables false
namespace Go.Z
open Go Go.RowKit Go.Proofs
/-- Bytes. -/
def I8R (h : Heap) (cs : List Value) (x : Int) : Prop := cs = [.int .i8 x] ∧ -128 ≤ x ∧ x ≤ 127
abbrev BytesAt := Sls I8R 1
instance : Mo I8R := ⟨fun e a => a⟩
theorem tmod10 (x : Int) : -9 ≤ x.tmod 10 ∧ x.tmod 10 ≤ 9 := by
  rcases (show 0 ≤ x ∨ 0 ≤ -x by omega) with h | h
  · rw [Int.tmod_eq_emod_of_nonneg h]; omega
  · have : x.tmod 10 = -((-x).tmod 10) := by rw [Int.neg_tmod]; omega
    rw [this, Int.tmod_eq_emod_of_nonneg h]; omega
def digit10 (l : List Int) (i : Nat) : Int := match l[i]? with
  | some x => x.tmod 10
  | none => 0
def vecL (l : List Int) (n : Nat) : List Int := (List.range n).map (digit10 l)
theorem vecL_succ (l : List Int) (n : Nat) : vecL l (n + 1) = vecL l n ++ [digit10 l n] := by simp [vecL, List.range_succ]
theorem digit10_bnd (l : List Int) (i : Nat) : (digit10 l i).natAbs ≤ 9 := by
  unfold digit10
  split
  · have := tmod10 ‹_›; omega
  · simp
theorem vecL_bnd (l : List Int) (n : Nat) : ∀ z ∈ vecL l n, z.natAbs ≤ 9 := fun z hz => by
  obtain ⟨i, _, rfl⟩ := List.mem_map.1 hz; exact digit10_bnd l i
theorem vecL_len (l : List Int) (n : Nat) : (vecL l n).length = n := by simp [vecL]
theorem Sls.byte {h : Heap} {p : Option Addr} {n c : Nat} {l : List Int} (s : BytesAt h (.slice p n c) l) {i : Nat} {z : Int} (hi : l[i]? = some z) :
    ∃ b o, p = some ⟨b, o, none⟩ ∧ CellN h b (o + i * 1) [.int .i8 z] ∧ -128 ≤ z ∧ z ≤ 127 := by
  obtain ⟨b, o, us, rfl, hc, ⟨rfl, h1, h2⟩, _⟩ := s.get hi
  exact ⟨b, o, rfl, hc, h1, h2⟩
theorem zero_fn {h : Heap} :
    Fn Try.prog 47 #[] h fun r h' => IntAt h' r 0 := by
  refine Fn.intro (args := []) Try.func47 rfl rfl (Nat.le_of_ble_eq_true rfl) fun w => ?_
  refine J.seq ?_
  refine J.region ?_
  refine o_al (fun b0 => ?_)
  refine JL.nil ?_
  refine J.seq ?_
  refine J.region ?_
  refine o_call (of_fn (by decide)) (fun r h1 s1 hr => ?_)
  obtain ⟨pr, nr, rfl, _, hm⟩ := hr.out
  refine o_stw (vs := [_, _]) rfl rfl rfl inferInstance rfl rfl ?_
  refine JL.nil ?_
  refine J.ret ?_
  exact ret_ok (fn := Try.f47) rfl (.agg rfl inferInstance inferInstance .nil) (IntAt.in hm)
theorem vec_fn {h : Heap} {v : Value} {l : List Int} {n : Nat} (hv : BytesAt h v l) (hn : n ≤ 1000000) :
    Fn Try.prog 13 #[v, .int .i64 (n : Int)] h fun r h' => VecAt h' r (vecL l n) := by
  obtain ⟨p, c, rfl, hc⟩ := hv.out
  refine Fn.intro (args := [_, _]) Try.func13 rfl rfl (Nat.le_of_ble_eq_true rfl) fun w => ?_
  refine J.seq ?_
  refine J.region ?_
  refine o_q (q_as) ?_
  refine JL.nil ?_
  refine J.seq ?_
  refine J.region ?_
  refine o_bs [] (by decide) rfl (fun b8 => ?_)
  first | refine o_q (q_asv (v := .slice _ _ _) rfl) ?_ | refine o_q (q_as) ?_
  refine JL.nil ?_
  -- cut: kept [], said [5]
  first | refine J.cutK (α := List Value × Option Addr × Nat × Own) (fun ⟨xs, pv, cv, Lb⟩ h' L' => OwnS 37 2 (.slice pv n cv) n xs Lb ∧ Cells IntR 2 h' xs (vecL l n) ∧ List.Sublist Lb L') [] trivial (fun ⟨xs, pv, cv, Lb⟩ => [(5, .slice pv n cv)]) ?_ ?_ | refine J.cutK (α := List Value × Option Addr × Nat × Own) (fun ⟨xs, pv, cv, Lb⟩ h' L' => OwnS 37 2 (.slice pv n cv) n xs Lb ∧ Cells IntR 2 h' xs (vecL l n) ∧ List.Sublist Lb L') [] trivial (fun ⟨xs, pv, cv, Lb⟩ => [(5, .slice pv n cv)]) ?_ ?_
  ·
    refine J.seq ?_
    refine J.region ?_
    refine o_q (q_as) ?_
    refine JL.nil ?_
    refine J.block ?_
    -- loop 0: kept [0, 1], said [5, 6]
    first | refine J.loopK (α := Nat × List Value × Option Addr × Nat × Own) (fun ⟨i, xs, pv, cv, Lb⟩ h' L' => i ≤ n ∧ OwnS 37 2 (.slice pv i cv) i xs Lb ∧ Cells IntR 2 h' xs (vecL l i) ∧ List.Sublist Lb L') [(0, .slice _ _ _), (1, .int _ _)] ⟨rfl, rfl, trivial⟩ (fun ⟨i, xs, pv, cv, Lb⟩ => [(5, .slice pv i cv), (6, .int .i64 (i : Int))]) (fun x => n - x.1) ((0, [], some ⟨b8, 0, none⟩, 0, [(b8, row 37 [])])) ⟨by omega, OwnS.lit (xs := []) (n := 0) rfl, Cells.nil, List.Sublist.refl _⟩ ⟨rfl, rfl, trivial⟩ ?_ | refine J.loopK (α := Nat × List Value × Option Addr × Nat × Own) (fun ⟨i, xs, pv, cv, Lb⟩ h' L' => i ≤ n ∧ OwnS 37 2 (.slice pv i cv) i xs Lb ∧ Cells IntR 2 h' xs (vecL l i) ∧ List.Sublist Lb L') [(0, _), (1, _)] ⟨rfl, rfl, trivial⟩ (fun ⟨i, xs, pv, cv, Lb⟩ => [(5, .slice pv i cv), (6, .int .i64 (i : Int))]) (fun x => n - x.1) ((0, [], some ⟨b8, 0, none⟩, 0, [(b8, row 37 [])])) ⟨by omega, OwnS.lit (xs := []) (n := 0) rfl, Cells.nil, List.Sublist.refl _⟩ ⟨rfl, rfl, trivial⟩ ?_
    rintro ⟨i, xs, pv, cv, Lb⟩ σ h1 L1 s1 ⟨hi, ho, hcs, hsub⟩
    refine J.sub hsub ?_
    refine J.seq ?_
    refine J.seq ?_
    refine J.region ?_
    first | refine o_q (q_mvv (v := .int _ _) rfl) ?_ | refine o_q (q_mv) ?_
    first | refine o_q (q_mvv (v := .int _ _) rfl) ?_ | refine o_q (q_mv) ?_
    refine o_q (q_lss rfl rfl) ?_
    refine JL.nil ?_
    refine J.condD rfl (fun c0 => ?_) (fun c0 => ?_)
    ·
      refine J.skip ?_
      refine J.seq ?_
      refine J.block ?_
      refine J.seq ?_
      refine J.region ?_
      refine o_call zero_fn (fun v14 h14 s14 r14 => ?_)
      obtain ⟨p14, n14, c14, rfl, q14⟩ := r14.outR
      refine o_al (fun b7 => ?_)
      refine o_stw (vs := [_, _]) rfl rfl rfl inferInstance rfl rfl ?_
      refine JL.nil ?_
      -- cut: kept [0, 1, 5, 6, 7], said []
      first | refine J.cutK (α := Bool × Option Addr × Nat × Nat) (fun ⟨sg, pz, nz, cz⟩ h' L' => IntR h' [.bool sg, .slice pz nz cz] (digit10 l i) ∧ List.Sublist ((b7, row 37 [.bool sg, .slice pz nz cz]) :: Lb) L') [(0, .slice _ _ _), (1, .int _ _), (5, .slice _ _ _), (6, .int _ _), (7, .pointer _)] ⟨rfl, rfl, rfl, rfl, rfl, trivial⟩ (fun _ => []) ?_ ?_ | refine J.cutK (α := Bool × Option Addr × Nat × Nat) (fun ⟨sg, pz, nz, cz⟩ h' L' => IntR h' [.bool sg, .slice pz nz cz] (digit10 l i) ∧ List.Sublist ((b7, row 37 [.bool sg, .slice pz nz cz]) :: Lb) L') [(0, _), (1, _), (5, _), (6, _), (7, _)] ⟨rfl, rfl, rfl, rfl, rfl, trivial⟩ (fun _ => []) ?_ ?_
      ·
        refine J.seq ?_
        refine J.region ?_
        first | refine o_q (q_mvv (v := .int _ _) rfl) ?_ | refine o_q (q_mv) ?_
        first | refine o_q (q_mvv (v := .slice _ _ _) rfl) ?_ | refine o_q (q_mv) ?_
        refine o_q (q_len rfl) ?_
        refine o_q (q_lss rfl rfl) ?_
        refine JL.nil ?_
        refine J.condD rfl (fun c1 => ?_) (fun c1 => ?_)
        ·
          obtain ⟨x, hx⟩ := lt_get (show i < l.length by omega)
          obtain ⟨kx, ox, rfl, hcx, lx, ux⟩ := Sls.byte hv hx
          have hd : digit10 l i = x.tmod 10 := by unfold digit10; rw [hx]
          have htm := tmod10 x
          refine J.region ?_
          first | refine o_q (q_mvv (v := .slice _ _ _) rfl) ?_ | refine o_q (q_mv) ?_
          first | refine o_q (q_mvv (v := .int _ _) rfl) ?_ | refine o_q (q_mv) ?_
          refine o_q (q_ia rfl rfl (by omega)) ?_
          refine o_q (q_ldf rfl hcx) ?_
          refine o_q (q_rem (c := x.tmod 10) rfl rfl (by decide) rfl) ?_
          refine o_q (q_cv (c := x.tmod 10) rfl (wi64 (by omega))) ?_
          refine o_call (of_fn (by omega)) (fun v25 h25 s25 r25 => ?_)
          obtain ⟨p25, n25, c25, rfl, q25⟩ := r25.outR
          refine o_stw (vs := [_, _]) rfl rfl rfl inferInstance rfl rfl ?_
          refine JL.nil ?_
          first
            | exact ⟨(_, p25, n25, c25), rfl, ⟨rfl, rfl, rfl, rfl, rfl, trivial⟩, trivial, ⟨(by rw [hd]; exact Mo.mono' q25), (by repeat' first | exact List.Sublist.refl _ | apply List.Sublist.cons_cons | apply List.Sublist.append (List.Sublist.refl _) | apply List.Sublist.cons)⟩, inferInstance⟩
            | exact ⟨(_, p14, n14, c14), rfl, ⟨rfl, rfl, rfl, rfl, rfl, trivial⟩, trivial, ⟨(by rw [hd]; exact Mo.mono' q14), (by repeat' first | exact List.Sublist.refl _ | apply List.Sublist.cons_cons | apply List.Sublist.append (List.Sublist.refl _) | apply List.Sublist.cons)⟩, inferInstance⟩
        ·
          have hd : digit10 l i = 0 := by unfold digit10; rw [List.getElem?_eq_none (by omega)]
          refine J.skip ?_
          first
            | exact ⟨(_, p25, n25, c25), rfl, ⟨rfl, rfl, rfl, rfl, rfl, trivial⟩, trivial, ⟨(by rw [hd]; exact Mo.mono' q25), (by repeat' first | exact List.Sublist.refl _ | apply List.Sublist.cons_cons | apply List.Sublist.append (List.Sublist.refl _) | apply List.Sublist.cons)⟩, inferInstance⟩
            | exact ⟨(_, p14, n14, c14), rfl, ⟨rfl, rfl, rfl, rfl, rfl, trivial⟩, trivial, ⟨(by rw [hd]; exact Mo.mono' q14), (by repeat' first | exact List.Sublist.refl _ | apply List.Sublist.cons_cons | apply List.Sublist.append (List.Sublist.refl _) | apply List.Sublist.cons)⟩, inferInstance⟩
      ·
        rintro ⟨sg, pz, nz, cz⟩ σ6 h6 L6 s6 ⟨hz, hsub6⟩
        refine J.sub hsub6 ?_
        refine J.region ?_
        first | refine o_q (q_mvv (v := .slice _ _ _) rfl) ?_ | refine o_q (q_mv) ?_
        refine o_q (q_lda (vs := [_, _]) rfl inferInstance ⟨rfl, rfl, trivial⟩) ?_
        first | refine o_bs [.bool _, .slice _ _ _] (by decide) rfl (fun b28 => ?_) | refine o_bs [_, _] (by decide) rfl (fun b28 => ?_)
        refine o_app (m := 1) rfl rfl ho inferInstance (src_own inferInstance (LookN.all _) rfl (by simp [plain])) (by omega) (fun v29 L29 ho29 => ?_)
        obtain ⟨p29, c29, rfl⟩ := ho29.out
        first | refine o_q (q_asv (v := .slice _ _ _) rfl) ?_ | refine o_q (q_as) ?_
        refine JL.nil ?_
        refine J.region ?_
        first | refine o_q (q_mvv (v := .int _ _) rfl) ?_ | refine o_q (q_mv) ?_
        refine o_q (q_add (c := ((i + 1 : Nat) : Int)) rfl rfl (by rw [wi64 (by omega)]; omega)) ?_
        first | refine o_q (q_asv (v := .int _ _) rfl) ?_ | refine o_q (q_as) ?_
        refine JL.nil ?_
        exact ⟨(i + 1, _, p29, c29, L29), rfl, ⟨rfl, rfl, trivial⟩, ⟨rfl, rfl, trivial⟩, ⟨by omega, ho29, (by rw [vecL_succ]; exact hcs.mono.snoc rfl (Mo.mono' hz)), (by repeat' first | exact List.Sublist.refl _ | apply List.Sublist.cons_cons | apply List.Sublist.append (List.Sublist.refl _) | apply List.Sublist.cons)⟩, by show n - (i + 1) < n - i; omega, inferInstance⟩
    ·
      refine J.exit ?_
      obtain rfl : i = n := by omega
      exact ⟨(xs, pv, cv, Lb), rfl, trivial, ⟨rfl, trivial⟩, ⟨ho, hcs, List.Sublist.refl _⟩, inferInstance⟩
  ·
    rintro ⟨xs, pv, cv, Lb⟩ σ9 h9 L9 s9 ⟨ho, hcs, hsub⟩
    refine J.sub hsub ?_
    refine J.seq ?_
    refine J.fzS ho (fun h9 s9 hs9 => ?_)
    refine J.region ?_
    first | refine o_q (q_mvv (v := .slice _ _ _) rfl) ?_ | refine o_q (q_mv) ?_
    first | refine o_q (q_asv (v := .slice _ _ _) rfl) ?_ | refine o_q (q_as) ?_
    refine JL.nil ?_
    refine J.ret ?_
    exact ret_ok (fn := Try.f13) rfl (.tmp rfl .nil) (Sls.of hs9 hcs.mono (vecL_len l n).symm)
theorem row_fn {h : Heap} {v : Value} {l : List Int} (hv : VecAt h v l) (hl : l.length ≤ 1000000) (hF : ∀ z ∈ l, Fit z) :
    Fn Try.prog 12 #[v] h fun r h' => RowAt h' r (cr (sprow l)) := by
  obtain ⟨p, c, rfl, hc⟩ := hv.out
  refine Fn.intro (args := [_]) Try.func12 rfl rfl (Nat.le_of_ble_eq_true rfl) fun w => ?_
  refine J.seq ?_
  refine J.region ?_
  refine o_q (q_as) ?_
  refine JL.nil ?_
  refine J.seq ?_
  refine J.region ?_
  refine o_bs [] (by decide) rfl (fun b5 => ?_)
  first | refine o_q (q_asv (v := .slice _ _ _) rfl) ?_ | refine o_q (q_as) ?_
  refine JL.nil ?_
  -- cut: kept [], said [3]
  first | refine J.cutK (α := List Value × Option Addr × Nat × Own) (fun ⟨xs, pv, cv, Lv⟩ h' L' => OwnS 71 3 (.slice pv (sprow l).length cv) (sprow l).length xs Lv ∧ Cells TermR 3 h' xs (cr (sprow l)) ∧ List.Sublist Lv L') [] trivial (fun ⟨xs, pv, cv, Lv⟩ => [(3, .slice pv (sprow l).length cv)]) ?_ ?_ | refine J.cutK (α := List Value × Option Addr × Nat × Own) (fun ⟨xs, pv, cv, Lv⟩ h' L' => OwnS 71 3 (.slice pv (sprow l).length cv) (sprow l).length xs Lv ∧ Cells TermR 3 h' xs (cr (sprow l)) ∧ List.Sublist Lv L') [] trivial (fun ⟨xs, pv, cv, Lv⟩ => [(3, .slice pv (sprow l).length cv)]) ?_ ?_
  ·
    refine J.seq ?_
    refine J.region ?_
    refine o_q (q_as) ?_
    refine JL.nil ?_
    refine J.block ?_
    -- loop 0: kept [0], said [3, 4]
    first | refine J.loopK (α := Nat × List Value × Option Addr × Nat × Own) (fun ⟨j, xs, pv, cv, Lv⟩ h' L' => j ≤ l.length ∧ OwnS 71 3 (.slice pv (sprow (l.take j)).length cv) (sprow (l.take j)).length xs Lv ∧ Cells TermR 3 h' xs (cr (sprow (l.take j))) ∧ List.Sublist Lv L') [(0, .slice _ _ _)] ⟨rfl, trivial⟩ (fun ⟨j, xs, pv, cv, Lv⟩ => [(3, .slice pv (sprow (l.take j)).length cv), (4, .int .i64 (j : Int))]) (fun x => l.length - x.1) ((0, [], some ⟨b5, 0, none⟩, 0, [(b5, row 71 [])])) ⟨by omega, OwnS.lit (xs := []) (n := 0) rfl, Cells.nil, List.Sublist.refl _⟩ ⟨rfl, rfl, trivial⟩ ?_ | refine J.loopK (α := Nat × List Value × Option Addr × Nat × Own) (fun ⟨j, xs, pv, cv, Lv⟩ h' L' => j ≤ l.length ∧ OwnS 71 3 (.slice pv (sprow (l.take j)).length cv) (sprow (l.take j)).length xs Lv ∧ Cells TermR 3 h' xs (cr (sprow (l.take j))) ∧ List.Sublist Lv L') [(0, _)] ⟨rfl, trivial⟩ (fun ⟨j, xs, pv, cv, Lv⟩ => [(3, .slice pv (sprow (l.take j)).length cv), (4, .int .i64 (j : Int))]) (fun x => l.length - x.1) ((0, [], some ⟨b5, 0, none⟩, 0, [(b5, row 71 [])])) ⟨by omega, OwnS.lit (xs := []) (n := 0) rfl, Cells.nil, List.Sublist.refl _⟩ ⟨rfl, rfl, trivial⟩ ?_
    rintro ⟨j, xs, pv, cv, Lv⟩ σ2 h2 L2 s2 ⟨hj, hov, hcv, hsub2⟩
    refine J.sub hsub2 ?_
    refine J.seq ?_
    refine J.seq ?_
    refine J.region ?_
    first | refine o_q (q_mvv (v := .int _ _) rfl) ?_ | refine o_q (q_mv) ?_
    first | refine o_q (q_mvv (v := .slice _ _ _) rfl) ?_ | refine o_q (q_mv) ?_
    refine o_q (q_len rfl) ?_
    refine o_q (q_lss rfl rfl) ?_
    refine JL.nil ?_
    refine J.condD rfl (fun c1 => ?_) (fun c1 => ?_)
    ·
      obtain ⟨z, hz⟩ := lt_get (show j < l.length by omega)
      obtain ⟨kx, ox, qx, nx, rfl, hcx, hnx, hmx⟩ := Sls.int hv hz
      have hfz := hF z (List.mem_of_getElem? hz)
      have hsl := sprow_len (l.take j)
      rw [List.length_take] at hsl
      have hst := sprow_succ hz
      refine J.skip ?_
      refine J.seq ?_
      refine J.block ?_
      refine J.seq ?_
      refine J.region ?_
      first | refine o_q (q_mvv (v := .slice _ _ _) rfl) ?_ | refine o_q (q_mv) ?_
      first | refine o_q (q_mvv (v := .int _ _) rfl) ?_ | refine o_q (q_mv) ?_
      refine o_q (q_ia rfl rfl (by omega)) ?_
      refine o_q (q_ldfa rfl hcx) ?_
      refine o_call (signr_fn ⟨_, rfl, hmx.mono⟩ (Nat.le_trans hfz (by decide))) (fun v29 hv29 sv29 ev29 => ?_)
      subst ev29
      refine o_q (q_neq rfl rfl) ?_
      refine JL.nil ?_
      refine J.condD rfl (fun c2 => ?_) (fun c2 => ?_)
      ·
        have hnz := fun e => c2 ((sgn_zero z).2 e)
        refine J.region ?_
        first | refine o_q (q_mvv (v := .slice _ _ _) rfl) ?_ | refine o_q (q_mv) ?_
        first | refine o_q (q_mvv (v := .int _ _) rfl) ?_ | refine o_q (q_mv) ?_
        first | refine o_q (q_mvv (v := .slice _ _ _) rfl) ?_ | refine o_q (q_mv) ?_
        first | refine o_q (q_mvv (v := .int _ _) rfl) ?_ | refine o_q (q_mv) ?_
        refine o_q (q_ia rfl rfl (by omega)) ?_
        refine o_q (q_ldfa rfl hcx) ?_
        first | refine o_q (q_bd [.int _ _, .bool _, .slice _ _ _] rfl) ?_ | refine o_q (q_bd [_, _, _] rfl) ?_
        first | refine o_bs [.int _ _, .bool _, .slice _ _ _] (by decide) rfl (fun b25 => ?_) | refine o_bs [_, _, _] (by decide) rfl (fun b25 => ?_)
        refine o_app (m := 1) rfl rfl hov inferInstance (src_own inferInstance (LookN.all _) rfl (by simp [plain])) (by omega) (fun v36 L36 ho36 => ?_)
        obtain ⟨p36, c36, rfl⟩ := ho36.out
        first | refine o_q (q_asv (v := .slice _ _ _) rfl) ?_ | refine o_q (q_as) ?_
        refine JL.nil ?_
        refine J.region ?_
        first | refine o_q (q_mvv (v := .int _ _) rfl) ?_ | refine o_q (q_mv) ?_
        refine o_q (q_add (c := ((j + 1 : Nat) : Int)) rfl rfl (by rw [wi64 (by omega)]; omega)) ?_
        first | refine o_q (q_asv (v := .int _ _) rfl) ?_ | refine o_q (q_as) ?_
        refine JL.nil ?_
        first
          | (rw [keep_pos hnz] at hst; exact ⟨(j + 1, _, p36, c36, L36), rfl, ⟨rfl, trivial⟩, ⟨(by rw [hst, List.length_append] <;> rfl), rfl, trivial⟩, ⟨by omega, (by rw [hst, List.length_append]; exact ho36), (by rw [hst, show cr (sprow (l.take j) ++ [((j : Int), z)]) = cr (sprow (l.take j)) ++ [tm ((j : Int), z)] by simp [cr]]; exact hcv.mono.snoc rfl ⟨_, _, rfl, hnx, hmx.mono⟩), (by repeat' first | exact List.Sublist.refl _ | apply List.Sublist.cons_cons | apply List.Sublist.append (List.Sublist.refl _) | apply List.Sublist.cons)⟩, by show l.length - (j + 1) < l.length - j; omega, inferInstance⟩)
          | (rw [keep_zero hnz, List.append_nil] at hst; exact ⟨(j + 1, xs, pv, cv, Lv), rfl, ⟨rfl, trivial⟩, ⟨(by rw [hst] <;> rfl), rfl, trivial⟩, ⟨by omega, (by rw [hst]; exact hov), (by rw [hst]; exact hcv.mono), (by repeat' first | exact List.Sublist.refl _ | apply List.Sublist.cons_cons | apply List.Sublist.append (List.Sublist.refl _) | apply List.Sublist.cons)⟩, by show l.length - (j + 1) < l.length - j; omega, inferInstance⟩)
      ·
        have hnz := (sgn_zero z).1 (Classical.not_not.1 c2)
        refine J.skip ?_
        refine J.region ?_
        first | refine o_q (q_mvv (v := .int _ _) rfl) ?_ | refine o_q (q_mv) ?_
        refine o_q (q_add (c := ((j + 1 : Nat) : Int)) rfl rfl (by rw [wi64 (by omega)]; omega)) ?_
        first | refine o_q (q_asv (v := .int _ _) rfl) ?_ | refine o_q (q_as) ?_
        refine JL.nil ?_
        first
          | (rw [keep_pos hnz] at hst; exact ⟨(j + 1, _, p36, c36, L36), rfl, ⟨rfl, trivial⟩, ⟨(by rw [hst, List.length_append] <;> rfl), rfl, trivial⟩, ⟨by omega, (by rw [hst, List.length_append]; exact ho36), (by rw [hst, show cr (sprow (l.take j) ++ [((j : Int), z)]) = cr (sprow (l.take j)) ++ [tm ((j : Int), z)] by simp [cr]]; exact hcv.mono.snoc rfl ⟨_, _, rfl, hnx, hmx.mono⟩), (by repeat' first | exact List.Sublist.refl _ | apply List.Sublist.cons_cons | apply List.Sublist.append (List.Sublist.refl _) | apply List.Sublist.cons)⟩, by show l.length - (j + 1) < l.length - j; omega, inferInstance⟩)
          | (rw [keep_zero hnz, List.append_nil] at hst; exact ⟨(j + 1, xs, pv, cv, Lv), rfl, ⟨rfl, trivial⟩, ⟨(by rw [hst] <;> rfl), rfl, trivial⟩, ⟨by omega, (by rw [hst]; exact hov), (by rw [hst]; exact hcv.mono), (by repeat' first | exact List.Sublist.refl _ | apply List.Sublist.cons_cons | apply List.Sublist.append (List.Sublist.refl _) | apply List.Sublist.cons)⟩, by show l.length - (j + 1) < l.length - j; omega, inferInstance⟩)
    ·
      refine J.exit ?_
      obtain rfl : j = l.length := by omega
      rw [List.take_length] at hov hcv
      exact ⟨(xs, pv, cv, Lv), rfl, trivial, ⟨(by rw [show sprow l = sprow (l.take l.length) by rw [List.take_length]] <;> rfl), trivial⟩, ⟨hov, hcv, List.Sublist.refl _⟩, inferInstance⟩
  ·
    rintro ⟨xs, pv, cv, Lv⟩ σ8 h8 L8 s8 ⟨hov, hcv, hsub8⟩
    refine J.sub hsub8 ?_
    refine J.seq ?_
    refine J.fzS hov (fun h10 s10 hs10 => ?_)
    refine J.region ?_
    first | refine o_q (q_mvv (v := .slice _ _ _) rfl) ?_ | refine o_q (q_mv) ?_
    first | refine o_q (q_asv (v := .slice _ _ _) rfl) ?_ | refine o_q (q_as) ?_
    refine JL.nil ?_
    refine J.ret ?_
    exact ret_ok (fn := Try.f12) rfl (.tmp rfl .nil) (Sls.of hs10 hcv.mono (by simp))
end Go.Z
