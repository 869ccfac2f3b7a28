/- The examples that every law of this chapter asks first, walked. -/
import Derived.Test.YtjdfhlkpfjhjoaaLits
set_option linter.unusedSimpArgs false
set_option linter.unusedVariables false
namespace Go.Z
open Go Go.RowKit Go.Proofs
theorem eg_merge : mergeL (-2) [(0, 2), (3, 1)] [(0, 1), (1, 5)] = [(1, -10), (3, 1)] := by simp [mergeL, keep]
theorem eg_from : [[(0 : Int), 2], [0, 0]].map sprow = [[(1, 2)], []] := by decide
theorem eg_times : timesL [3, 4] [[(1, 2)], []] (List.replicate (2 : Int).toNat 0) = [0, 6] := by decide
theorem eg_v1 : validS 2 2 (crs [[(1, 2)], []]) = true := by rw [validS_crs]; decide
theorem eg_v2 : validS 0 0 [] = true := by decide
theorem eg_v3 : validS 1 0 [] = false := by decide
theorem eg_v4 : validS 1 2 (crs [[(1, 0)]]) = false := by rw [validS_crs]; decide
theorem eg_v5 : validS 1 2 (crs [[(2, 1)]]) = false := by rw [validS_crs]; decide
set_option maxHeartbeats 8000000 in
theorem sanity_fn {h : Heap} :
    Fn Try.prog 9 #[] h fun r _ => r = .bool true := by
  refine Fn.intro (args := []) Try.func9 rfl rfl (Nat.le_of_ble_eq_true rfl) fun w => ?_
  refine J.seq ?_
  refine J.region ?_
  refine o_q (q_as) ?_
  refine JL.nil ?_
  refine J.seq ?_
  refine J.region ?_
  refine o_call (term_fn (by decide)) (fun v18 h18 s18 r18 => ?_)
  obtain ⟨p18, n18, c18, rfl, q18⟩ := r18.out
  refine o_call (term_fn (by decide)) (fun v19 h19 s19 r19 => ?_)
  obtain ⟨p19, n19, c19, rfl, q19⟩ := r19.out
  refine o_bs [.int _ _, .bool _, .slice _ _ _, .int _ _, .bool _, .slice _ _ _] (by decide) rfl (fun b20 => ?_)
  refine JL.fz b20 (fun hh20 ss20 hb20 => ?_)
  have k18 := Mo.mono' (R := TermR) (h' := hh20) q18
  have k19 := Mo.mono' (R := TermR) (h' := hh20) q19
  have ra := Sls.lit 2 hb20 (Cells.two k18 k19 rfl rfl rfl) rfl
  replace ra : RowAt hh20 _ (cr [(0, 2), (3, 1)]) := ra
  first | refine o_q (q_asv (v := .slice _ _ _) rfl) ?_ | refine o_q (q_as) ?_
  refine JL.nil ?_
  refine J.seq ?_
  refine J.region ?_
  refine o_call (term_fn (by decide)) (fun v21 h21 s21 r21 => ?_)
  obtain ⟨p21, n21, c21, rfl, q21⟩ := r21.out
  refine o_call (term_fn (by decide)) (fun v22 h22 s22 r22 => ?_)
  obtain ⟨p22, n22, c22, rfl, q22⟩ := r22.out
  refine o_bs [.int _ _, .bool _, .slice _ _ _, .int _ _, .bool _, .slice _ _ _] (by decide) rfl (fun b23 => ?_)
  refine JL.fz b23 (fun hh23 ss23 hb23 => ?_)
  have k21 := Mo.mono' (R := TermR) (h' := hh23) q21
  have k22 := Mo.mono' (R := TermR) (h' := hh23) q22
  have rb := Sls.lit 2 hb23 (Cells.two k21 k22 rfl rfl rfl) rfl
  replace rb : RowAt hh23 _ (cr [(0, 1), (1, 5)]) := rb
  first | refine o_q (q_asv (v := .slice _ _ _) rfl) ?_ | refine o_q (q_as) ?_
  refine JL.nil ?_
  refine J.seq ?_
  refine J.region ?_
  first | refine o_q (q_mvv (v := .slice _ _ _) rfl) ?_ | refine o_q (q_mv) ?_
  first | refine o_q (q_mvv (v := .slice _ _ _) rfl) ?_ | refine o_q (q_mv) ?_
  refine o_call (of_fn (by decide)) (fun v26 h26 s26 r26 => ?_)
  refine o_call (merge_fn ra.mono rb.mono r26 (by decide) (by decide) (by decide) (by decide) (by decide)) (fun v27 h27 s27 r27 => ?_)
  rw [eg_merge] at r27
  obtain ⟨pm, cm, rfl, _⟩ := r27.out
  first | refine o_q (q_asv (v := .slice _ _ _) rfl) ?_ | refine o_q (q_as) ?_
  refine JL.nil ?_
  refine J.seq ?_
  refine J.region ?_
  refine o_call (of_fn (by decide)) (fun v28 h28 s28 r28 => ?_)
  obtain ⟨p28, n28, c28, rfl, q28⟩ := r28.outR
  refine o_call (of_fn (by decide)) (fun v29 h29 s29 r29 => ?_)
  obtain ⟨p29, n29, c29, rfl, q29⟩ := r29.outR
  refine o_bs [.bool _, .slice _ _ _, .bool _, .slice _ _ _] (by decide) rfl (fun b30 => ?_)
  refine JL.fz b30 (fun hh30 ss30 hb30 => ?_)
  have k28 := Mo.mono' (R := IntR) (h' := hh30) q28
  have k29 := Mo.mono' (R := IntR) (h' := hh30) q29
  have va := Sls.lit 2 hb30 (Cells.two k28 k29 rfl rfl rfl) rfl
  refine o_call (of_fn (by decide)) (fun v31 h31 s31 r31 => ?_)
  obtain ⟨p31, n31, c31, rfl, q31⟩ := r31.outR
  refine o_call (of_fn (by decide)) (fun v32 h32 s32 r32 => ?_)
  obtain ⟨p32, n32, c32, rfl, q32⟩ := r32.outR
  refine o_bs [.bool _, .slice _ _ _, .bool _, .slice _ _ _] (by decide) rfl (fun b33 => ?_)
  refine JL.fz b33 (fun hh33 ss33 hb33 => ?_)
  have k31 := Mo.mono' (R := IntR) (h' := hh33) q31
  have k32 := Mo.mono' (R := IntR) (h' := hh33) q32
  have vb := Sls.lit 2 hb33 (Cells.two k31 k32 rfl rfl rfl) rfl
  refine o_bs [.slice _ _ _, .slice _ _ _] (by decide) rfl (fun b34 => ?_)
  refine JL.fz b34 (fun hh34 ss34 hb34 => ?_)
  have ma := Sls.lit 2 hb34 (Cells.two (R := One VecAt) ⟨_, _, _, rfl, va.mono⟩ ⟨_, _, _, rfl, vb.mono⟩ rfl rfl rfl) rfl
  have mat : MatAt hh34 (.agg ⟨[.int .i64 2, .int .i64 2, .slice (some ⟨b34, 0, none⟩) 2 2]⟩) 2 2 [[0, 2], [0, 0]] := ⟨_, _, rfl, ma⟩
  first | refine o_q (q_bd [.int _ _, .int _ _, .slice _ _ _] rfl) ?_ | refine o_q (q_bd [_, _, _] rfl) ?_
  refine o_call (from_fn mat (by decide) (by decide) (fun r hr => fitsv (by revert r; decide))) (fun v36 h36 s36 r36 => ?_)
  rw [eg_from] at r36
  obtain ⟨pS, cS, rfl, hS⟩ := r36
  replace hS : RowsAt h36 (.slice pS 2 cS) (crs [[(1, 2)], []]) := hS
  refine o_al (fun b4 => ?_)
  refine o_stw (vs := [_, _, _]) rfl rfl rfl inferInstance rfl rfl ?_
  refine JL.nil ?_
  refine J.seq ?_
  refine J.region ?_
  refine o_call (term_fn (by decide)) (fun v37 h37 s37 r37 => ?_)
  obtain ⟨p37, n37, c37, rfl, q37⟩ := r37.out
  refine o_bs [.int _ _, .bool _, .slice _ _ _] (by decide) rfl (fun b38 => ?_)
  refine JL.fz b38 (fun hh38 ss38 hb38 => ?_)
  have k37 := Mo.mono' (R := TermR) (h' := hh38) q37
  have rc := Sls.lit 1 hb38 (Cells.one k37 rfl) rfl
  refine o_bs [] (by decide) rfl (fun b39 => ?_)
  refine JL.fz b39 (fun hh39 ss39 hb39 => ?_)
  have rd : RowAt hh39 (.slice (some ⟨b39, 0, none⟩) 0 0) (cr []) := Sls.lit 0 hb39 Cells.nil rfl
  refine o_bs [.slice _ _ _, .slice _ _ _] (by decide) rfl (fun b40 => ?_)
  refine JL.fz b40 (fun hh40 ss40 hb40 => ?_)
  have wa := Sls.lit 2 hb40 (Cells.two (R := One RowAt) ⟨_, _, _, rfl, rc.mono⟩ ⟨_, _, _, rfl, rd.mono⟩ rfl rfl rfl) rfl
  replace wa : RowsAt hh40 (.slice (some ⟨b40, 0, none⟩) 2 2) (crs [[(1, 2)], []]) := wa
  first | refine o_q (q_bd [.int _ _, .int _ _, .slice _ _ _] rfl) ?_ | refine o_q (q_bd [_, _, _] rfl) ?_
  refine o_al (fun b5 => ?_)
  refine o_stw (vs := [_, _, _]) rfl rfl rfl inferInstance rfl rfl ?_
  refine JL.nil ?_
  -- cut: kept [1, 3, 4, 5], said [7]
  first | refine J.cutK (α := Unit) (fun _ h' L' => List.Sublist [(b5, row 24 [.int .i64 2, .int .i64 2, .slice (some ⟨b40, 0, none⟩) 2 2]), (b4, row 24 [.int .i64 2, .int .i64 2, .slice pS 2 cS])] L') [(1, .slice _ _ _), (3, .slice _ _ _), (4, .pointer _), (5, .pointer _)] ⟨rfl, rfl, rfl, rfl, trivial⟩ (fun _ => [(7, .int .i64 50)]) ?_ ?_ | refine J.cutK (α := Unit) (fun _ h' L' => List.Sublist [(b5, row 24 [.int .i64 2, .int .i64 2, .slice (some ⟨b40, 0, none⟩) 2 2]), (b4, row 24 [.int .i64 2, .int .i64 2, .slice pS 2 cS])] L') [(1, _), (3, _), (4, _), (5, _)] ⟨rfl, rfl, rfl, rfl, trivial⟩ (fun _ => [(7, .int .i64 50)]) ?_ ?_
  ·
    refine J.drawA [8] ?_
    refine JD.load 0 (by kernel_rfl) rfl trivial (q_lda (vs := [_, _, _]) rfl inferInstance ⟨rfl, rfl, rfl, trivial⟩) ?_
    refine JD.all [1, 7] (by kernel_rfl) rfl ⟨?_, ?_, trivial⟩
    ·
      refine JX.eff rfl rfl trivial ?_
      refine o_mk (n := 3) (m := 3) rfl rfl rfl rfl (by decide) (by decide) (by decide) (fun b44 => ?_)
      refine JL.nil ⟨rfl, inferInstance, inferInstance, ?_⟩
      first | refine JD.calc 2 (by kernel_rfl) rfl trivial ss_sub (q_bd [.int _ _, .int _ _, .slice _ _ _] rfl) ?_ | refine JD.calc 2 (by kernel_rfl) rfl trivial ss_sub (q_bd [_, _, _] rfl) ?_
      refine JD.all [3, 7] (by kernel_rfl) rfl ⟨?_, ?_, trivial⟩
      ·
        refine JX.eff rfl rfl trivial ?_
        refine o_call (mul_err (by decide)) (fun v46 hv46 sv46 ev46 => ?_)
        subst ev46
        refine JL.nil ⟨rfl, inferInstance, inferInstance, ?_⟩
        refine JD.calc 4 (by kernel_rfl) rfl trivial ss_sub (q_mv) ?_
        refine JD.calc 5 (by kernel_rfl) rfl trivial ss_sub (q_ex rfl rfl) ?_
        refine JD.calc 6 (by kernel_rfl) rfl trivial ss_sub (q_ex rfl rfl) ?_
        refine JD.one 7 (by kernel_rfl) ?_
        refine JX.eff rfl rfl trivial ?_
        refine o_al (fun b6 => ?_)
        refine JL.nil ⟨rfl, inferInstance, inferInstance, ?_⟩
        refine JD.one 8 (by kernel_rfl) ?_
        refine JX.mut rfl rfl trivial ?_
        refine o_stw (vs := [_, _, _]) rfl rfl rfl inferInstance rfl rfl ?_
        refine JL.nil ⟨rfl, ?_⟩
        first | refine JD.calc 9 (by kernel_rfl) rfl trivial ss_top (q_asv (v := .int _ _) rfl) ?_ | refine JD.calc 9 (by kernel_rfl) rfl trivial ss_top (q_as) ?_
        refine JD.done (by kernel_rfl) ?_ _
        exact ⟨(), rfl, ⟨rfl, rfl, rfl, rfl, trivial⟩, ⟨rfl, trivial⟩, (by repeat' first | exact List.Sublist.refl _ | apply List.Sublist.cons_cons | exact List.nil_sublist _ | apply List.Sublist.cons), inferInstance⟩
      ·
        refine JX.eff rfl rfl trivial ?_
        refine o_al (fun b6 => ?_)
        refine JL.nil ⟨rfl, inferInstance, inferInstance, ?_⟩
        refine JD.one 3 (by kernel_rfl) ?_
        refine JX.eff rfl rfl trivial ?_
        refine o_call (mul_err (by decide)) (fun v46 hv46 sv46 ev46 => ?_)
        subst ev46
        refine JL.nil ⟨rfl, inferInstance, inferInstance, ?_⟩
        refine JD.calc 4 (by kernel_rfl) rfl trivial ss_sub (q_mv) ?_
        refine JD.calc 5 (by kernel_rfl) rfl trivial ss_sub (q_ex rfl rfl) ?_
        refine JD.calc 6 (by kernel_rfl) rfl trivial ss_sub (q_ex rfl rfl) ?_
        refine JD.one 8 (by kernel_rfl) ?_
        refine JX.mut rfl rfl trivial ?_
        refine o_stw (vs := [_, _, _]) rfl rfl rfl inferInstance rfl rfl ?_
        refine JL.nil ⟨rfl, ?_⟩
        first | refine JD.calc 9 (by kernel_rfl) rfl trivial ss_top (q_asv (v := .int _ _) rfl) ?_ | refine JD.calc 9 (by kernel_rfl) rfl trivial ss_top (q_as) ?_
        refine JD.done (by kernel_rfl) ?_ _
        exact ⟨(), rfl, ⟨rfl, rfl, rfl, rfl, trivial⟩, ⟨rfl, trivial⟩, (by repeat' first | exact List.Sublist.refl _ | apply List.Sublist.cons_cons | exact List.nil_sublist _ | apply List.Sublist.cons), inferInstance⟩
    ·
      refine JX.eff rfl rfl trivial ?_
      refine o_al (fun b6 => ?_)
      refine JL.nil ⟨rfl, inferInstance, inferInstance, ?_⟩
      refine JD.one 1 (by kernel_rfl) ?_
      refine JX.eff rfl rfl trivial ?_
      refine o_mk (n := 3) (m := 3) rfl rfl rfl rfl (by decide) (by decide) (by decide) (fun b44 => ?_)
      refine JL.nil ⟨rfl, inferInstance, inferInstance, ?_⟩
      first | refine JD.calc 2 (by kernel_rfl) rfl trivial ss_sub (q_bd [.int _ _, .int _ _, .slice _ _ _] rfl) ?_ | refine JD.calc 2 (by kernel_rfl) rfl trivial ss_sub (q_bd [_, _, _] rfl) ?_
      refine JD.one 3 (by kernel_rfl) ?_
      refine JX.eff rfl rfl trivial ?_
      refine o_call (mul_err (by decide)) (fun v46 hv46 sv46 ev46 => ?_)
      subst ev46
      refine JL.nil ⟨rfl, inferInstance, inferInstance, ?_⟩
      refine JD.calc 4 (by kernel_rfl) rfl trivial ss_sub (q_mv) ?_
      refine JD.calc 5 (by kernel_rfl) rfl trivial ss_sub (q_ex rfl rfl) ?_
      refine JD.calc 6 (by kernel_rfl) rfl trivial ss_sub (q_ex rfl rfl) ?_
      refine JD.one 8 (by kernel_rfl) ?_
      refine JX.mut rfl rfl trivial ?_
      refine o_stw (vs := [_, _, _]) rfl rfl rfl inferInstance rfl rfl ?_
      refine JL.nil ⟨rfl, ?_⟩
      first | refine JD.calc 9 (by kernel_rfl) rfl trivial ss_top (q_asv (v := .int _ _) rfl) ?_ | refine JD.calc 9 (by kernel_rfl) rfl trivial ss_top (q_as) ?_
      refine JD.done (by kernel_rfl) ?_ _
      exact ⟨(), rfl, ⟨rfl, rfl, rfl, rfl, trivial⟩, ⟨rfl, trivial⟩, (by repeat' first | exact List.Sublist.refl _ | apply List.Sublist.cons_cons | exact List.nil_sublist _ | apply List.Sublist.cons), inferInstance⟩
  ·
    rintro _ σ6 hc6 L6 sc6 hsub6
    refine J.sub hsub6 ?_
    -- cut: kept [1, 3, 4, 5, 7], said [9]
    first | refine J.cutK (α := Unit) (fun _ h' L' => List.Sublist [(b5, row 24 [.int .i64 2, .int .i64 2, .slice (some ⟨b40, 0, none⟩) 2 2]), (b4, row 24 [.int .i64 2, .int .i64 2, .slice pS 2 cS])] L') [(1, .slice _ _ _), (3, .slice _ _ _), (4, .pointer _), (5, .pointer _), (7, .int _ _)] ⟨rfl, rfl, rfl, rfl, rfl, trivial⟩ (fun _ => [(9, .int .i64 50)]) ?_ ?_ | refine J.cutK (α := Unit) (fun _ h' L' => List.Sublist [(b5, row 24 [.int .i64 2, .int .i64 2, .slice (some ⟨b40, 0, none⟩) 2 2]), (b4, row 24 [.int .i64 2, .int .i64 2, .slice pS 2 cS])] L') [(1, _), (3, _), (4, _), (5, _), (7, _)] ⟨rfl, rfl, rfl, rfl, rfl, trivial⟩ (fun _ => [(9, .int .i64 50)]) ?_ ?_
    ·
      refine J.drawA [] ?_
      refine JD.load 2 (by kernel_rfl) rfl trivial (q_lda (vs := [_, _, _]) rfl inferInstance ⟨rfl, rfl, rfl, trivial⟩) ?_
      refine JD.one 0 (by kernel_rfl) ?_
      refine JX.eff rfl rfl trivial ?_
      refine o_call (of_fn (by decide)) (fun v50 h50 s50 r50 => ?_)
      obtain ⟨p50, n50, c50, rfl, q50⟩ := r50.outR
      refine JL.nil ⟨rfl, inferInstance, inferInstance, ?_⟩
      refine JD.one 1 (by kernel_rfl) ?_
      refine JX.eff rfl rfl trivial ?_
      refine o_bs [.bool _, .slice _ _ _] (by decide) rfl (fun b51 => ?_)
      refine JL.fz b51 (fun hh51 ss51 hb51 => ?_)
      have k50 := Mo.mono' (R := IntR) (h' := hh51) q50
      have vd := Sls.lit 1 hb51 (Cells.one k50 rfl) rfl
      refine JL.nil ⟨rfl, inferInstance, inferInstance, ?_⟩
      refine JD.one 3 (by kernel_rfl) ?_
      refine JX.eff rfl rfl trivial ?_
      refine o_call (times_err (by decide)) (fun v53 hv53 sv53 ev53 => ?_)
      subst ev53
      refine JL.nil ⟨rfl, inferInstance, inferInstance, ?_⟩
      refine JD.calc 4 (by kernel_rfl) rfl trivial ss_sub (q_mv) ?_
      refine JD.calc 5 (by kernel_rfl) rfl trivial ss_sub (q_ex rfl rfl) ?_
      refine JD.calc 6 (by kernel_rfl) rfl trivial ss_sub (q_ex rfl rfl) ?_
      first | refine JD.calc 7 (by kernel_rfl) rfl trivial ss_sub (q_asv (v := .slice _ _ _) rfl) ?_ | refine JD.calc 7 (by kernel_rfl) rfl trivial ss_sub (q_as) ?_
      first | refine JD.calc 8 (by kernel_rfl) rfl trivial ss_sub (q_asv (v := .int _ _) rfl) ?_ | refine JD.calc 8 (by kernel_rfl) rfl trivial ss_sub (q_as) ?_
      refine JD.done (by kernel_rfl) ?_ _
      exact ⟨(), rfl, ⟨rfl, rfl, rfl, rfl, rfl, trivial⟩, ⟨rfl, trivial⟩, (by repeat' first | exact List.Sublist.refl _ | apply List.Sublist.cons_cons | exact List.nil_sublist _ | apply List.Sublist.cons), inferInstance⟩
    ·
      rintro _ σ7 hc7 L7 sc7 hsub7
      refine J.sub hsub7 ?_
      -- cut: kept [1, 3, 4, 5, 7, 9], said [11]
      first | refine J.cutK (α := Unit) (fun _ h' L' => List.Sublist [(b5, row 24 [.int .i64 2, .int .i64 2, .slice (some ⟨b40, 0, none⟩) 2 2]), (b4, row 24 [.int .i64 2, .int .i64 2, .slice pS 2 cS])] L') [(1, .slice _ _ _), (3, .slice _ _ _), (4, .pointer _), (5, .pointer _), (7, .int _ _), (9, .int _ _)] ⟨rfl, rfl, rfl, rfl, rfl, rfl, trivial⟩ (fun _ => [(11, .int .i64 1)]) ?_ ?_ | refine J.cutK (α := Unit) (fun _ h' L' => List.Sublist [(b5, row 24 [.int .i64 2, .int .i64 2, .slice (some ⟨b40, 0, none⟩) 2 2]), (b4, row 24 [.int .i64 2, .int .i64 2, .slice pS 2 cS])] L') [(1, _), (3, _), (4, _), (5, _), (7, _), (9, _)] ⟨rfl, rfl, rfl, rfl, rfl, rfl, trivial⟩ (fun _ => [(11, .int .i64 1)]) ?_ ?_
      ·
        refine J.region ?_
        refine o_q (q_lda (vs := [_, _, _]) rfl inferInstance ⟨rfl, rfl, rfl, trivial⟩) ?_
        refine o_call (insert_err1 (.inr ⟨by decide, by decide⟩)) (fun v58 hv58 sv58 ev58 => ?_)
        subst ev58
        refine o_q (q_mv) ?_
        refine o_q (q_ex rfl rfl) ?_
        refine o_q (q_ex rfl rfl) ?_
        refine o_al (fun b10 => ?_)
        refine o_stw (vs := [_, _, _]) rfl rfl rfl inferInstance rfl rfl ?_
        first | refine o_q (q_asv (v := .int _ _) rfl) ?_ | refine o_q (q_as) ?_
        refine JL.nil ?_
        exact ⟨(), rfl, ⟨rfl, rfl, rfl, rfl, rfl, rfl, trivial⟩, ⟨rfl, trivial⟩, (by repeat' first | exact List.Sublist.refl _ | apply List.Sublist.cons_cons | exact List.nil_sublist _ | apply List.Sublist.cons), inferInstance⟩
      ·
        rintro _ σ8 hc8 L8 sc8 hsub8
        refine J.sub hsub8 ?_
        -- cut: kept [3, 4, 5, 7, 9, 11], said [13]
        first | refine J.cutK (α := Unit) (fun _ h' L' => List.Sublist [(b5, row 24 [.int .i64 2, .int .i64 2, .slice (some ⟨b40, 0, none⟩) 2 2]), (b4, row 24 [.int .i64 2, .int .i64 2, .slice pS 2 cS])] L') [(3, .slice _ _ _), (4, .pointer _), (5, .pointer _), (7, .int _ _), (9, .int _ _), (11, .int _ _)] ⟨rfl, rfl, rfl, rfl, rfl, rfl, trivial⟩ (fun _ => [(13, .int .i64 50)]) ?_ ?_ | refine J.cutK (α := Unit) (fun _ h' L' => List.Sublist [(b5, row 24 [.int .i64 2, .int .i64 2, .slice (some ⟨b40, 0, none⟩) 2 2]), (b4, row 24 [.int .i64 2, .int .i64 2, .slice pS 2 cS])] L') [(3, _), (4, _), (5, _), (7, _), (9, _), (11, _)] ⟨rfl, rfl, rfl, rfl, rfl, rfl, trivial⟩ (fun _ => [(13, .int .i64 50)]) ?_ ?_
        ·
          refine J.region ?_
          refine o_q (q_lda (vs := [_, _, _]) rfl inferInstance ⟨rfl, rfl, rfl, trivial⟩) ?_
          first | refine o_q (q_mvv (v := .slice _ _ _) rfl) ?_ | refine o_q (q_mv) ?_
          refine o_call (insert_err2 (t := tm (3, 1)) ra.mono ⟨by decide, by decide⟩ (by decide) (by decide) rfl (by decide)) (fun v64 hv64 sv64 ev64 => ?_)
          subst ev64
          refine o_q (q_mv) ?_
          refine o_q (q_ex rfl rfl) ?_
          refine o_q (q_ex rfl rfl) ?_
          refine o_al (fun b12 => ?_)
          refine o_stw (vs := [_, _, _]) rfl rfl rfl inferInstance rfl rfl ?_
          first | refine o_q (q_asv (v := .int _ _) rfl) ?_ | refine o_q (q_as) ?_
          refine JL.nil ?_
          exact ⟨(), rfl, ⟨rfl, rfl, rfl, rfl, rfl, rfl, trivial⟩, ⟨rfl, trivial⟩, (by repeat' first | exact List.Sublist.refl _ | apply List.Sublist.cons_cons | exact List.nil_sublist _ | apply List.Sublist.cons), inferInstance⟩
        ·
          rintro _ σ9 hc9 L9 sc9 hsub9
          refine J.sub hsub9 ?_
          -- cut: kept [3, 4, 5, 7, 9, 11, 13], said [15]
          first | refine J.cutK (α := Unit) (fun _ h' L' => List.Sublist [(b5, row 24 [.int .i64 2, .int .i64 2, .slice (some ⟨b40, 0, none⟩) 2 2]), (b4, row 24 [.int .i64 2, .int .i64 2, .slice pS 2 cS])] L') [(3, .slice _ _ _), (4, .pointer _), (5, .pointer _), (7, .int _ _), (9, .int _ _), (11, .int _ _), (13, .int _ _)] ⟨rfl, rfl, rfl, rfl, rfl, rfl, rfl, trivial⟩ (fun _ => [(15, .int .i64 1)]) ?_ ?_ | refine J.cutK (α := Unit) (fun _ h' L' => List.Sublist [(b5, row 24 [.int .i64 2, .int .i64 2, .slice (some ⟨b40, 0, none⟩) 2 2]), (b4, row 24 [.int .i64 2, .int .i64 2, .slice pS 2 cS])] L') [(3, _), (4, _), (5, _), (7, _), (9, _), (11, _), (13, _)] ⟨rfl, rfl, rfl, rfl, rfl, rfl, rfl, trivial⟩ (fun _ => [(15, .int .i64 1)]) ?_ ?_
          ·
            refine J.region ?_
            refine o_q (q_lda (vs := [_, _, _]) rfl inferInstance ⟨rfl, rfl, rfl, trivial⟩) ?_
            refine o_call (remove_err (.inr ⟨by decide, by decide⟩)) (fun v69 hv69 sv69 ev69 => ?_)
            subst ev69
            refine o_q (q_mv) ?_
            refine o_q (q_ex rfl rfl) ?_
            refine o_q (q_ex rfl rfl) ?_
            refine o_al (fun b14 => ?_)
            refine o_stw (vs := [_, _, _]) rfl rfl rfl inferInstance rfl rfl ?_
            first | refine o_q (q_asv (v := .int _ _) rfl) ?_ | refine o_q (q_as) ?_
            refine JL.nil ?_
            exact ⟨(), rfl, ⟨rfl, rfl, rfl, rfl, rfl, rfl, rfl, trivial⟩, ⟨rfl, trivial⟩, (by repeat' first | exact List.Sublist.refl _ | apply List.Sublist.cons_cons | exact List.nil_sublist _ | apply List.Sublist.cons), inferInstance⟩
          ·
            rintro _ σ10 hc10 L10 sc10 hsub10
            refine J.sub hsub10 ?_
            refine J.seq ?_
            refine J.drawA [] ?_
            refine JD.load 3 (by kernel_rfl) rfl trivial (q_lda (vs := [_, _, _]) rfl inferInstance ⟨rfl, rfl, rfl, trivial⟩) ?_
            refine JD.one 0 (by kernel_rfl) ?_
            refine JX.eff rfl rfl trivial ?_
            refine o_call (of_fn (by decide)) (fun v73 h73 s73 r73 => ?_)
            obtain ⟨p73, n73, c73, rfl, q73⟩ := r73.outR
            refine JL.nil ⟨rfl, inferInstance, inferInstance, ?_⟩
            refine JD.one 1 (by kernel_rfl) ?_
            refine JX.eff rfl rfl trivial ?_
            refine o_call (of_fn (by decide)) (fun v74 h74 s74 r74 => ?_)
            obtain ⟨p74, n74, c74, rfl, q74⟩ := r74.outR
            refine JL.nil ⟨rfl, inferInstance, inferInstance, ?_⟩
            refine JD.one 2 (by kernel_rfl) ?_
            refine JX.eff rfl rfl trivial ?_
            refine o_bs [.bool _, .slice _ _ _, .bool _, .slice _ _ _] (by decide) rfl (fun b75 => ?_)
            refine JL.fz b75 (fun hh75 ss75 hb75 => ?_)
            have k73 := Mo.mono' (R := IntR) (h' := hh75) q73
            have k74 := Mo.mono' (R := IntR) (h' := hh75) q74
            have ve := Sls.lit 2 hb75 (Cells.two k73 k74 rfl rfl rfl) rfl
            refine JL.nil ⟨rfl, inferInstance, inferInstance, ?_⟩
            refine JD.one 4 (by kernel_rfl) ?_
            refine JX.eff rfl rfl trivial ?_
            refine o_call (times_fn (M := [[(1, 2)], []]) ve.mono ⟨_, _, rfl, hS.mono⟩ rfl rfl (by decide) (by decide) (by decide) (by decide) (by decide) (by decide)) (fun v77 h77 s77 r77 => ?_)
            obtain ⟨pt, nt, ct, rfl, r77⟩ := r77
            rw [eg_times] at r77
            refine JL.nil ⟨rfl, inferInstance, inferInstance, ?_⟩
            refine JD.calc 5 (by kernel_rfl) rfl trivial ss_sub (q_mv) ?_
            refine JD.calc 6 (by kernel_rfl) rfl trivial ss_sub (q_ex rfl rfl) ?_
            refine JD.calc 7 (by kernel_rfl) rfl trivial ss_sub (q_ex rfl rfl) ?_
            first | refine JD.calc 8 (by kernel_rfl) rfl trivial ss_sub (q_asv (v := .slice _ _ _) rfl) ?_ | refine JD.calc 8 (by kernel_rfl) rfl trivial ss_sub (q_as) ?_
            first | refine JD.calc 9 (by kernel_rfl) rfl trivial ss_sub (q_asv (v := .int _ _) rfl) ?_ | refine JD.calc 9 (by kernel_rfl) rfl trivial ss_sub (q_as) ?_
            refine JD.done (by kernel_rfl) ?_ _
            refine J.seq ?_
            refine J.region ?_
            first | refine o_q (q_mvv (v := .slice _ _ _) rfl) ?_ | refine o_q (q_mv) ?_
            refine o_call (term_fn (by decide)) (fun v81 h81 s81 r81 => ?_)
            obtain ⟨p81, n81, c81, rfl, q81⟩ := r81.out
            refine o_call (term_fn (by decide)) (fun v82 h82 s82 r82 => ?_)
            obtain ⟨p82, n82, c82, rfl, q82⟩ := r82.out
            refine o_bs [.int _ _, .bool _, .slice _ _ _, .int _ _, .bool _, .slice _ _ _] (by decide) rfl (fun b83 => ?_)
            refine JL.fz b83 (fun hh83 ss83 hb83 => ?_)
            have k81 := Mo.mono' (R := TermR) (h' := hh83) q81
            have k82 := Mo.mono' (R := TermR) (h' := hh83) q82
            have rf := Sls.lit 2 hb83 (Cells.two k81 k82 rfl rfl rfl) rfl
            replace rf : RowAt hh83 _ (cr [(1, -10), (3, 1)]) := rf
            refine o_call (Fn.mono (R' := fun v _ => v = .bool true) (samerow_fn r27.mono rf.mono (by decide) (by decide) (fits (by decide)) (fits (by decide))) (fun _ _ _ e => e.trans (congrArg Value.bool (by decide)))) (fun v84 h84 s84 e84 => ?_)
            subst e84
            first | refine o_q (q_mvv (v := .bool _) rfl) ?_ | refine o_q (q_mv) ?_
            refine JL.guardT rfl rfl rfl ?_
            refine o_q (q_lda (vs := [_, _, _]) rfl inferInstance ⟨rfl, rfl, rfl, trivial⟩) ?_
            refine JL.guardT rfl rfl rfl ?_
            refine o_q (q_lda (vs := [_, _, _]) rfl inferInstance ⟨rfl, rfl, rfl, trivial⟩) ?_
            refine JL.guardT rfl rfl rfl ?_
            refine o_call (Fn.mono (R' := fun v _ => v = .bool true) (equals_fn (l := [[(1, 2)], []]) (m := [[(1, 2)], []]) ⟨_, _, rfl, hS.mono⟩ ⟨_, _, rfl, wa.mono⟩ (by decide) (by decide) (by decide) (by decide) (fitss (by decide)) (fitss (by decide))) (fun _ _ _ e => e.trans (congrArg Value.bool (by decide)))) (fun v88 h88 s88 e88 => ?_)
            subst e88
            first | refine o_q (q_pickTv (v := .bool _) rfl rfl rfl) ?_ | refine o_q (q_pickT rfl rfl) ?_
            first | refine o_q (q_mvv (v := .bool _) rfl) ?_ | refine o_q (q_mv) ?_
            refine JL.guardT rfl rfl rfl ?_
            first | refine o_q (q_mvv (v := .int _ _) rfl) ?_ | refine o_q (q_mv) ?_
            refine JL.guardT rfl rfl rfl ?_
            refine o_q (q_eql rfl rfl) ?_
            first | refine o_q (q_pickTv (v := .bool _) rfl rfl rfl) ?_ | refine o_q (q_pickT rfl rfl) ?_
            first | refine o_q (q_mvv (v := .bool _) rfl) ?_ | refine o_q (q_mv) ?_
            refine JL.guardT rfl rfl (decide_eq_true rfl) ?_
            first | refine o_q (q_mvv (v := .int _ _) rfl) ?_ | refine o_q (q_mv) ?_
            refine JL.guardT rfl rfl (decide_eq_true rfl) ?_
            refine o_q (q_eql rfl rfl) ?_
            first | refine o_q (q_pickTv (v := .bool _) rfl (decide_eq_true rfl) rfl) ?_ | refine o_q (q_pickT rfl (decide_eq_true rfl)) ?_
            first | refine o_q (q_mvv (v := .bool _) rfl) ?_ | refine o_q (q_mv) ?_
            refine JL.guardT rfl rfl (decide_eq_true rfl) ?_
            first | refine o_q (q_mvv (v := .int _ _) rfl) ?_ | refine o_q (q_mv) ?_
            refine JL.guardT rfl rfl (decide_eq_true rfl) ?_
            refine o_q (q_eql rfl rfl) ?_
            first | refine o_q (q_pickTv (v := .bool _) rfl (decide_eq_true rfl) rfl) ?_ | refine o_q (q_pickT rfl (decide_eq_true rfl)) ?_
            first | refine o_q (q_mvv (v := .bool _) rfl) ?_ | refine o_q (q_mv) ?_
            refine JL.guardT rfl rfl (decide_eq_true rfl) ?_
            first | refine o_q (q_mvv (v := .int _ _) rfl) ?_ | refine o_q (q_mv) ?_
            refine JL.guardT rfl rfl (decide_eq_true rfl) ?_
            refine o_q (q_eql rfl rfl) ?_
            first | refine o_q (q_pickTv (v := .bool _) rfl (decide_eq_true rfl) rfl) ?_ | refine o_q (q_pickT rfl (decide_eq_true rfl)) ?_
            first | refine o_q (q_mvv (v := .bool _) rfl) ?_ | refine o_q (q_mv) ?_
            refine JL.guardT rfl rfl (decide_eq_true rfl) ?_
            first | refine o_q (q_mvv (v := .int _ _) rfl) ?_ | refine o_q (q_mv) ?_
            refine JL.guardT rfl rfl (decide_eq_true rfl) ?_
            refine o_q (q_eql rfl rfl) ?_
            first | refine o_q (q_pickTv (v := .bool _) rfl (decide_eq_true rfl) rfl) ?_ | refine o_q (q_pickT rfl (decide_eq_true rfl)) ?_
            first | refine o_q (q_mvv (v := .bool _) rfl) ?_ | refine o_q (q_mv) ?_
            refine JL.guardT rfl rfl (decide_eq_true rfl) ?_
            first | refine o_q (q_mvv (v := .int _ _) rfl) ?_ | refine o_q (q_mv) ?_
            refine JL.guardT rfl rfl (decide_eq_true rfl) ?_
            refine o_q (q_eql rfl rfl) ?_
            first | refine o_q (q_pickTv (v := .bool _) rfl (decide_eq_true rfl) rfl) ?_ | refine o_q (q_pickT rfl (decide_eq_true rfl)) ?_
            first | refine o_q (q_mvv (v := .bool _) rfl) ?_ | refine o_q (q_mv) ?_
            refine JL.guardT rfl rfl (decide_eq_true rfl) ?_
            first | refine o_q (q_mvv (v := .slice _ _ _) rfl) ?_ | refine o_q (q_mv) ?_
            refine JL.guardT rfl rfl (decide_eq_true rfl) ?_
            refine o_call (of_fn (by decide)) (fun v116 h116 s116 r116 => ?_)
            obtain ⟨p116, n116, c116, rfl, q116⟩ := r116.outR
            refine JL.guardT rfl rfl (decide_eq_true rfl) ?_
            refine o_call (of_fn (by decide)) (fun v117 h117 s117 r117 => ?_)
            obtain ⟨p117, n117, c117, rfl, q117⟩ := r117.outR
            refine JL.guardT rfl rfl (decide_eq_true rfl) ?_
            refine o_bs [.bool _, .slice _ _ _, .bool _, .slice _ _ _] (by decide) rfl (fun b118 => ?_)
            refine JL.fz b118 (fun hh118 ss118 hb118 => ?_)
            have k116 := Mo.mono' (R := IntR) (h' := hh118) q116
            have k117 := Mo.mono' (R := IntR) (h' := hh118) q117
            have vg := Sls.lit 2 hb118 (Cells.two k116 k117 rfl rfl rfl) rfl
            refine JL.guardT rfl rfl (decide_eq_true rfl) ?_
            refine o_call (Fn.mono (R' := fun v _ => v = .bool true) (samevec_fn (l := [0, 6]) (m := [0, 6]) r77.mono vg.mono (by decide) (by decide) (fitsv (by decide)) (fitsv (by decide))) (fun _ _ _ e => e.trans (congrArg Value.bool (by decide)))) (fun v119 h119 s119 e119 => ?_)
            subst e119
            first | refine o_q (q_pickTv (v := .bool _) rfl (decide_eq_true rfl) rfl) ?_ | refine o_q (q_pickT rfl (decide_eq_true rfl)) ?_
            first | refine o_q (q_mvv (v := .bool _) rfl) ?_ | refine o_q (q_mv) ?_
            refine JL.guardT rfl rfl rfl ?_
            refine o_q (q_lda (vs := [_, _, _]) rfl inferInstance ⟨rfl, rfl, rfl, trivial⟩) ?_
            refine JL.guardT rfl rfl rfl ?_
            refine o_call (nonzero_fn (l := crs [[(1, 2)], []]) ⟨_, _, rfl, hS.mono⟩ (by decide) (lensR (by decide))) (fun v123 hv123 sv123 ev123 => ?_)
            subst ev123
            refine JL.guardT rfl rfl rfl ?_
            refine o_q (q_eql rfl rfl) ?_
            first | refine o_q (q_pickTv (v := .bool _) rfl rfl rfl) ?_ | refine o_q (q_pickT rfl rfl) ?_
            first | refine o_q (q_mvv (v := .bool _) rfl) ?_ | refine o_q (q_mv) ?_
            refine JL.guardT rfl rfl (decide_eq_true rfl) ?_
            refine o_q (q_lda (vs := [_, _, _]) rfl inferInstance ⟨rfl, rfl, rfl, trivial⟩) ?_
            refine JL.guardT rfl rfl (decide_eq_true rfl) ?_
            refine o_call (Fn.mono (R' := fun v _ => v = .bool true) (valids_fn (L := crs [[(1, 2)], []]) ⟨_, _, rfl, hS.mono⟩ (by decide) (lensR (by decide)) (lensT (fitss (by decide)))) (fun _ _ _ e => e.trans (congrArg Value.bool (eg_v1)))) (fun v128 h128 s128 e128 => ?_)
            subst e128
            first | refine o_q (q_pickTv (v := .bool _) rfl (decide_eq_true rfl) rfl) ?_ | refine o_q (q_pickT rfl (decide_eq_true rfl)) ?_
            first | refine o_q (q_mvv (v := .bool _) rfl) ?_ | refine o_q (q_mv) ?_
            refine JL.guardT rfl rfl rfl ?_
            first | refine o_q (q_bd [.int _ _, .int _ _, .slice _ _ _] rfl) ?_ | refine o_q (q_bd [_, _, _] rfl) ?_
            refine JL.guardT rfl rfl rfl ?_
            refine o_call (Fn.mono (R' := fun v _ => v = .bool true) (valids_fn (L := []) ⟨none, 0, rfl, Sls.nil _⟩ (by decide) (by decide) (by decide)) (fun _ _ _ e => e.trans (congrArg Value.bool (eg_v2)))) (fun v132 h132 s132 e132 => ?_)
            subst e132
            first | refine o_q (q_pickTv (v := .bool _) rfl rfl rfl) ?_ | refine o_q (q_pickT rfl rfl) ?_
            first | refine o_q (q_mvv (v := .bool _) rfl) ?_ | refine o_q (q_mv) ?_
            refine JL.guardT rfl rfl rfl ?_
            first | refine o_q (q_bd [.int _ _, .int _ _, .slice _ _ _] rfl) ?_ | refine o_q (q_bd [_, _, _] rfl) ?_
            refine JL.guardT rfl rfl rfl ?_
            refine o_call (Fn.mono (R' := fun v _ => v = .bool false) (valids_fn (L := []) ⟨none, 0, rfl, Sls.nil _⟩ (by decide) (by decide) (by decide)) (fun _ _ _ e => e.trans (congrArg Value.bool (eg_v3)))) (fun v136 h136 s136 e136 => ?_)
            subst e136
            refine JL.guardT rfl rfl rfl ?_
            refine o_q (q_not rfl) ?_
            first | refine o_q (q_pickTv (v := .bool _) rfl rfl rfl) ?_ | refine o_q (q_pickT rfl rfl) ?_
            first | refine o_q (q_mvv (v := .bool _) rfl) ?_ | refine o_q (q_mv) ?_
            refine JL.guardT rfl rfl rfl ?_
            refine o_call (term_fn (by decide)) (fun v140 h140 s140 r140 => ?_)
            obtain ⟨p140, n140, c140, rfl, q140⟩ := r140.out
            refine JL.guardT rfl rfl rfl ?_
            refine o_bs [.int _ _, .bool _, .slice _ _ _] (by decide) rfl (fun b141 => ?_)
            refine JL.fz b141 (fun hh141 ss141 hb141 => ?_)
            have k140 := Mo.mono' (R := TermR) (h' := hh141) q140
            have rh := Sls.lit 1 hb141 (Cells.one k140 rfl) rfl
            refine JL.guardT rfl rfl rfl ?_
            refine o_bs [.slice _ _ _] (by decide) rfl (fun b142 => ?_)
            refine JL.fz b142 (fun hh142 ss142 hb142 => ?_)
            have wh := Sls.lit 1 hb142 (Cells.one (R := One RowAt) ⟨_, _, _, rfl, rh.mono⟩ rfl) rfl
            refine JL.guardT rfl rfl rfl ?_
            first | refine o_q (q_bd [.int _ _, .int _ _, .slice _ _ _] rfl) ?_ | refine o_q (q_bd [_, _, _] rfl) ?_
            refine JL.guardT rfl rfl rfl ?_
            refine o_call (Fn.mono (R' := fun v _ => v = .bool false) (valids_fn (L := crs [[(1, 0)]]) ⟨_, _, rfl, wh.mono⟩ (by decide) (lensR (by decide)) (lensT (fitss (by decide)))) (fun _ _ _ e => e.trans (congrArg Value.bool (eg_v4)))) (fun v144 h144 s144 e144 => ?_)
            subst e144
            refine JL.guardT rfl rfl rfl ?_
            refine o_q (q_not rfl) ?_
            first | refine o_q (q_pickTv (v := .bool _) rfl rfl rfl) ?_ | refine o_q (q_pickT rfl rfl) ?_
            first | refine o_q (q_mvv (v := .bool _) rfl) ?_ | refine o_q (q_mv) ?_
            refine JL.guardT rfl rfl rfl ?_
            refine o_call (term_fn (by decide)) (fun v148 h148 s148 r148 => ?_)
            obtain ⟨p148, n148, c148, rfl, q148⟩ := r148.out
            refine JL.guardT rfl rfl rfl ?_
            refine o_bs [.int _ _, .bool _, .slice _ _ _] (by decide) rfl (fun b149 => ?_)
            refine JL.fz b149 (fun hh149 ss149 hb149 => ?_)
            have k148 := Mo.mono' (R := TermR) (h' := hh149) q148
            have ri := Sls.lit 1 hb149 (Cells.one k148 rfl) rfl
            refine JL.guardT rfl rfl rfl ?_
            refine o_bs [.slice _ _ _] (by decide) rfl (fun b150 => ?_)
            refine JL.fz b150 (fun hh150 ss150 hb150 => ?_)
            have wi := Sls.lit 1 hb150 (Cells.one (R := One RowAt) ⟨_, _, _, rfl, ri.mono⟩ rfl) rfl
            refine JL.guardT rfl rfl rfl ?_
            first | refine o_q (q_bd [.int _ _, .int _ _, .slice _ _ _] rfl) ?_ | refine o_q (q_bd [_, _, _] rfl) ?_
            refine JL.guardT rfl rfl rfl ?_
            refine o_call (Fn.mono (R' := fun v _ => v = .bool false) (valids_fn (L := crs [[(2, 1)]]) ⟨_, _, rfl, wi.mono⟩ (by decide) (lensR (by decide)) (lensT (fitss (by decide)))) (fun _ _ _ e => e.trans (congrArg Value.bool (eg_v5)))) (fun v152 h152 s152 e152 => ?_)
            subst e152
            refine JL.guardT rfl rfl rfl ?_
            refine o_q (q_not rfl) ?_
            first | refine o_q (q_pickTv (v := .bool _) rfl rfl rfl) ?_ | refine o_q (q_pickT rfl rfl) ?_
            first | refine o_q (q_asv (v := .bool _) rfl) ?_ | refine o_q (q_as) ?_
            refine JL.nil ?_
            refine J.ret ?_
            exact ret_ok (fn := Try.f9) rfl (.tmp rfl .nil) rfl
end Go.Z
