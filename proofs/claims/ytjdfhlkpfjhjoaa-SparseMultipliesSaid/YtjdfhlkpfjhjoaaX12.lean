/- Texts of ours, joined: L6cW. -/
import Derived.Test.YtjdfhlkpfjhjoaaX3
import Derived.Test.YtjdfhlkpfjhjoaaX1
import Derived.Test.YtjdfhlkpfjhjoaaX11
section
set_option linter.unusedSimpArgs false
set_option linter.unusedVariables false
/- Functions of the program return what their models compute; printed by wip/tools/gx.py. -/
set_option linter.unusedVariables false
set_option linter.unusedSimpArgs false
namespace Go.Z
open Go Go.RowKit Go.Proofs
set_option maxHeartbeats 4000000 in
theorem torsionlaw06_SparseMultiplies_fn {h : Heap} {x0 : R06Raw} {x1 : R06Raw} {x2 : R06Raw} {v0 : Value} {v1 : Value} {v2 : Value} (r0 : AggV R06RawR h v0 x0) (r1 : AggV R06RawR h v1 x1) (r2 : AggV R06RawR h v2 x2) {r : Bool} (hm : M.torsionlaw06_SparseMultiplies x0 x1 x2 = some r) :
    Fn Try.prog 6 #[v0, v1, v2] h fun v h' => v = .bool r := by
  obtain ⟨_, rfl, p21, n22, c23, rfl, f24⟩ := r0
  obtain ⟨_, rfl, p25, n26, c27, rfl, f28⟩ := r1
  obtain ⟨_, rfl, p29, n30, c31, rfl, f32⟩ := r2
  refine Fn.intro (args := [_, _, _]) Try.func6 rfl rfl (Nat.le_of_ble_eq_true rfl) fun w => ?_
  unfold M.torsionlaw06_SparseMultiplies at hm
  refine J.seq ?_
  refine J.region ?_
  first | refine o_bx (v := .agg ⟨[.int _ _, .int _ _, .slice _ _ _]⟩) rfl rfl (fun b33 => ?_) | refine o_bx rfl rfl (fun b33 => ?_)
  first | refine o_bx (v := .agg ⟨[.int _ _, .int _ _, .slice _ _ _]⟩) rfl rfl (fun b34 => ?_) | refine o_bx rfl rfl (fun b34 => ?_)
  first | refine o_bx (v := .agg ⟨[.int _ _, .int _ _, .slice _ _ _]⟩) rfl rfl (fun b35 => ?_) | refine o_bx rfl rfl (fun b35 => ?_)
  first | refine o_q (q_asv (v := .bool _) rfl) ?_ | refine o_q (q_as) ?_
  refine JL.nil ?_
  refine J.seq ?_
  obtain ⟨y41, e40, hm⟩ := bnd_some hm
  refine J.region ?_
  refine o_call (sanity_fn' e40) (fun v36 h37 s38 r39 => ?_)
  obtain rfl := (show _ = _ from r39)
  first | refine o_q (q_asv (v := .bool _) rfl) ?_ | refine o_q (q_as) ?_
  refine JL.nil ?_
  refine J.seq ?_
  obtain ⟨y47, e46, hm⟩ := bnd_some hm
  obtain ⟨y57, e56, hm⟩ := bnd_some hm
  refine J.region ?_
  refine o_q (q_lda (vs := [_, _, _]) rfl inferInstance ⟨rfl, rfl, rfl, trivial⟩) ?_
  refine o_call (torsionref06_Made_fn ⟨_, rfl, ⟨_, _, _, rfl, Sls.mono f24⟩⟩ e46) (fun v42 h43 s44 r45 => ?_)
  obtain ⟨_, rfl, p48, n49, c50, rfl, f51⟩ := r45
  refine o_call (torsionref06_From_fn ⟨_, rfl, ⟨_, _, _, rfl, Sls.mono f51⟩⟩ e56) (fun v52 h53 s54 r55 => ?_)
  obtain ⟨_, rfl, p58, n59, c60, rfl, f61⟩ := r55
  refine o_al (fun b62 => ?_)
  first | refine o_stc (vs := [.int _ _, .int _ _, .slice _ _ _]) (l' := [.int _ _, .int _ _, .slice _ _ _]) rfl rfl rfl rfl rfl inferInstance rfl rfl ?_ | refine o_stc (vs := [_, _, _]) (l' := [_, _, _]) rfl rfl rfl rfl rfl inferInstance rfl rfl ?_
  refine JL.nil ?_
  refine J.seq ?_
  obtain ⟨k63, hm⟩ := chk64_some hm
  obtain ⟨y69, e68, hm⟩ := bnd_some hm
  obtain ⟨y79, e78, hm⟩ := bnd_some hm
  refine J.region ?_
  refine o_q (q_lda (vs := [_, _, _]) rfl inferInstance ⟨rfl, rfl, rfl, trivial⟩) ?_
  refine o_q (q_fa rfl) ?_
  refine o_q (q_ld rfl inferInstance rfl) ?_
  refine o_q (q_fa rfl) ?_
  refine o_q (q_ld rfl inferInstance rfl) ?_
  refine o_q (q_cv rfl (wi64 k63)) ?_
  refine o_q (q_rem rfl rfl (by decide) rfl) ?_
  refine o_call (torsionref06_Sized_fn ⟨_, rfl, ⟨_, _, _, rfl, Sls.mono f28⟩⟩ e68) (fun v64 h65 s66 r67 => ?_)
  obtain ⟨_, rfl, p70, n71, c72, rfl, f73⟩ := r67
  refine o_call (torsionref06_From_fn ⟨_, rfl, ⟨_, _, _, rfl, Sls.mono f73⟩⟩ e78) (fun v74 h75 s76 r77 => ?_)
  obtain ⟨_, rfl, p80, n81, c82, rfl, f83⟩ := r77
  refine o_al (fun b84 => ?_)
  first | refine o_stc (vs := [.int _ _, .int _ _, .slice _ _ _]) (l' := [.int _ _, .int _ _, .slice _ _ _]) rfl rfl rfl rfl rfl inferInstance rfl rfl ?_ | refine o_stc (vs := [_, _, _]) (l' := [_, _, _]) rfl rfl rfl rfl rfl inferInstance rfl rfl ?_
  refine JL.nil ?_
  refine J.seq ?_
  obtain ⟨k85, hm⟩ := chk64_some hm
  obtain ⟨y91, e90, hm⟩ := bnd_some hm
  obtain ⟨y101, e100, hm⟩ := bnd_some hm
  refine J.region ?_
  refine o_q (q_lda (vs := [_, _, _]) rfl inferInstance ⟨rfl, rfl, rfl, trivial⟩) ?_
  refine o_q (q_fa rfl) ?_
  refine o_q (q_ld rfl inferInstance rfl) ?_
  refine o_q (q_fa rfl) ?_
  refine o_q (q_ld rfl inferInstance rfl) ?_
  refine o_q (q_cv rfl (wi64 k85)) ?_
  refine o_q (q_rem rfl rfl (by decide) rfl) ?_
  refine o_call (torsionref06_Sized_fn ⟨_, rfl, ⟨_, _, _, rfl, Sls.mono f32⟩⟩ e90) (fun v86 h87 s88 r89 => ?_)
  obtain ⟨_, rfl, p92, n93, c94, rfl, f95⟩ := r89
  refine o_call (torsionref06_From_fn ⟨_, rfl, ⟨_, _, _, rfl, Sls.mono f95⟩⟩ e100) (fun v96 h97 s98 r99 => ?_)
  obtain ⟨_, rfl, p102, n103, c104, rfl, f105⟩ := r99
  refine o_al (fun b106 => ?_)
  first | refine o_stc (vs := [.int _ _, .int _ _, .slice _ _ _]) (l' := [.int _ _, .int _ _, .slice _ _ _]) rfl rfl rfl rfl rfl inferInstance rfl rfl ?_ | refine o_stc (vs := [_, _, _]) (l' := [_, _, _]) rfl rfl rfl rfl rfl inferInstance rfl rfl ?_
  refine JL.nil ?_
  refine J.seq ?_
  obtain ⟨y112, e111, hm⟩ := bnd_some hm
  refine J.region ?_
  refine o_q (q_lda (vs := [_, _, _]) rfl inferInstance ⟨rfl, rfl, rfl, trivial⟩) ?_
  refine o_q (q_lda (vs := [_, _, _]) rfl inferInstance ⟨rfl, rfl, rfl, trivial⟩) ?_
  refine o_call (sparse_Mul_fn ⟨_, rfl, ⟨_, _, _, rfl, Sls.mono f61⟩⟩ ⟨_, rfl, ⟨_, _, _, rfl, Sls.mono f83⟩⟩ e111) (fun v107 h108 s109 r110 => ?_)
  obtain ⟨v113, v114, rfl, r115, r116⟩ := r110
  obtain ⟨_, rfl, p117, n118, c119, rfl, f120⟩ := r115
  obtain rfl := (show _ = _ from r116)
  refine o_q (q_mv) ?_
  refine o_q (q_ex rfl rfl) ?_
  refine o_q (q_ex rfl rfl) ?_
  refine o_al (fun b121 => ?_)
  first | refine o_stc (vs := [.int _ _, .int _ _, .slice _ _ _]) (l' := [.int _ _, .int _ _, .slice _ _ _]) rfl rfl rfl rfl rfl inferInstance rfl rfl ?_ | refine o_stc (vs := [_, _, _]) (l' := [_, _, _]) rfl rfl rfl rfl rfl inferInstance rfl rfl ?_
  first | refine o_q (q_asv (v := .int _ _) rfl) ?_ | refine o_q (q_as) ?_
  refine JL.nil ?_
  refine J.seq ?_
  obtain ⟨y127, e126, hm⟩ := bnd_some hm
  refine J.region ?_
  refine o_q (q_lda (vs := [_, _, _]) rfl inferInstance ⟨rfl, rfl, rfl, trivial⟩) ?_
  refine o_q (q_lda (vs := [_, _, _]) rfl inferInstance ⟨rfl, rfl, rfl, trivial⟩) ?_
  refine o_call (sparse_Mul_fn ⟨_, rfl, ⟨_, _, _, rfl, Sls.mono f83⟩⟩ ⟨_, rfl, ⟨_, _, _, rfl, Sls.mono f105⟩⟩ e126) (fun v122 h123 s124 r125 => ?_)
  obtain ⟨v128, v129, rfl, r130, r131⟩ := r125
  obtain ⟨_, rfl, p132, n133, c134, rfl, f135⟩ := r130
  obtain rfl := (show _ = _ from r131)
  refine o_q (q_mv) ?_
  refine o_q (q_ex rfl rfl) ?_
  refine o_q (q_ex rfl rfl) ?_
  refine o_al (fun b136 => ?_)
  first | refine o_stc (vs := [.int _ _, .int _ _, .slice _ _ _]) (l' := [.int _ _, .int _ _, .slice _ _ _]) rfl rfl rfl rfl rfl inferInstance rfl rfl ?_ | refine o_stc (vs := [_, _, _]) (l' := [_, _, _]) rfl rfl rfl rfl rfl inferInstance rfl rfl ?_
  first | refine o_q (q_asv (v := .int _ _) rfl) ?_ | refine o_q (q_as) ?_
  refine JL.nil ?_
  refine J.seq ?_
  refine J.seq ?_
  refine J.joinK (α := Bool) (fun v138 h' L' => (M.torsionlaw06_SparseMultiplies_j3 y41 y57 y79 y101 y112 y127) v138 = some r ∧ Sp ([(b62, row 24 [.int .i64 y57.Rows, .int .i64 y57.Cols, .slice p58 n59 c60]), (b84, row 24 [.int .i64 y79.Rows, .int .i64 y79.Cols, .slice p80 n81 c82]), (b106, row 24 [.int .i64 y101.Rows, .int .i64 y101.Cols, .slice p102 n103 c104]), (b121, row 24 [.int .i64 y112.1.Rows, .int .i64 y112.1.Cols, .slice p117 n118 c119]), (b136, row 24 [.int .i64 y127.1.Rows, .int .i64 y127.1.Cols, .slice p132 n133 c134])]) L') [(7, .bool _), (8, .pointer _), (9, .pointer _), (10, .pointer _), (11, .pointer _), (13, .pointer _)] ⟨rfl, rfl, rfl, rfl, rfl, rfl, trivial⟩ (fun v138 => [(101, .bool v138)]) ?_ ?_
  ·
    by_cases c408 : y112.2 = 0
    ·
      replace hm := ite_T c408 hm
      by_cases c409 : y127.2 = 0
      ·
        replace hm := ite_T c409 hm
        obtain ⟨y415, e414, hm⟩ := bnd_some hm
        by_cases c416 : y415 = true
        ·
          replace hm := ite_T c416 hm
          obtain ⟨y422, e421, hm⟩ := bnd_some hm
          by_cases c423 : y422 = true
          ·
            replace hm := ite_T c423 hm
            by_cases c424 : y112.1.Rows = y57.Rows
            ·
              replace hm := ite_T c424 hm
              by_cases c425 : y112.1.Cols = y79.Cols
              ·
                replace hm := ite_T c425 hm
                by_cases c426 : y127.1.Rows = y79.Rows
                ·
                  replace hm := ite_T c426 hm
                  refine J.region ?_
                  first | refine o_q (q_mvv (v := .int _ _) rfl) ?_ | refine o_q (q_mv) ?_
                  refine o_q (q_neq rfl rfl) ?_
                  first | refine o_q (q_mvv (v := .bool _) rfl) ?_ | refine o_q (q_mv) ?_
                  refine JL.guardT rfl rfl (decide_eq_false (fun z => z c408)) ?_
                  first | refine o_q (q_mvv (v := .int _ _) rfl) ?_ | refine o_q (q_mv) ?_
                  refine JL.guardT rfl rfl (decide_eq_false (fun z => z c408)) ?_
                  refine o_q (q_neq rfl rfl) ?_
                  first | refine o_q (q_pickFv (v := .bool _) rfl (decide_eq_false (fun z => z c408)) rfl) ?_ | refine o_q (q_pickF rfl (decide_eq_false (fun z => z c408))) ?_
                  first | refine o_q (q_mvv (v := .bool _) rfl) ?_ | refine o_q (q_mv) ?_
                  refine JL.guardT rfl rfl (decide_eq_false (fun z => z c409)) ?_
                  refine o_q (q_lda (vs := [_, _, _]) rfl inferInstance ⟨rfl, rfl, rfl, trivial⟩) ?_
                  refine JL.guardT rfl rfl (decide_eq_false (fun z => z c409)) ?_
                  refine o_call (torsionref06_Valid_fn ⟨_, rfl, ⟨_, _, _, rfl, Sls.mono f120⟩⟩ e414) (fun v410 h411 s412 r413 => ?_)
                  obtain rfl := (show _ = _ from r413)
                  refine JL.guardT rfl rfl (decide_eq_false (fun z => z c409)) ?_
                  refine o_q (q_not rfl) ?_
                  first | refine o_q (q_pickFv (v := .bool _) rfl (decide_eq_false (fun z => z c409)) rfl) ?_ | refine o_q (q_pickF rfl (decide_eq_false (fun z => z c409))) ?_
                  first | refine o_q (q_mvv (v := .bool _) rfl) ?_ | refine o_q (q_mv) ?_
                  refine JL.guardT rfl rfl (congrArg Bool.not (show y415 = true from c416)) ?_
                  refine o_q (q_lda (vs := [_, _, _]) rfl inferInstance ⟨rfl, rfl, rfl, trivial⟩) ?_
                  refine JL.guardT rfl rfl (congrArg Bool.not (show y415 = true from c416)) ?_
                  refine o_call (torsionref06_Valid_fn ⟨_, rfl, ⟨_, _, _, rfl, Sls.mono f135⟩⟩ e421) (fun v417 h418 s419 r420 => ?_)
                  obtain rfl := (show _ = _ from r420)
                  refine JL.guardT rfl rfl (congrArg Bool.not (show y415 = true from c416)) ?_
                  refine o_q (q_not rfl) ?_
                  first | refine o_q (q_pickFv (v := .bool _) rfl (congrArg Bool.not (show y415 = true from c416)) rfl) ?_ | refine o_q (q_pickF rfl (congrArg Bool.not (show y415 = true from c416))) ?_
                  first | refine o_q (q_mvv (v := .bool _) rfl) ?_ | refine o_q (q_mv) ?_
                  refine JL.guardT rfl rfl (congrArg Bool.not (show y422 = true from c423)) ?_
                  refine o_q (q_fa rfl) ?_
                  refine JL.guardT rfl rfl (congrArg Bool.not (show y422 = true from c423)) ?_
                  refine o_q (q_ld rfl inferInstance rfl) ?_
                  refine JL.guardT rfl rfl (congrArg Bool.not (show y422 = true from c423)) ?_
                  refine o_q (q_fa rfl) ?_
                  refine JL.guardT rfl rfl (congrArg Bool.not (show y422 = true from c423)) ?_
                  refine o_q (q_ld rfl inferInstance rfl) ?_
                  refine JL.guardT rfl rfl (congrArg Bool.not (show y422 = true from c423)) ?_
                  refine o_q (q_neq rfl rfl) ?_
                  first | refine o_q (q_pickFv (v := .bool _) rfl (congrArg Bool.not (show y422 = true from c423)) rfl) ?_ | refine o_q (q_pickF rfl (congrArg Bool.not (show y422 = true from c423))) ?_
                  first | refine o_q (q_mvv (v := .bool _) rfl) ?_ | refine o_q (q_mv) ?_
                  refine JL.guardT rfl rfl (decide_eq_false (fun z => z c424)) ?_
                  refine o_q (q_fa rfl) ?_
                  refine JL.guardT rfl rfl (decide_eq_false (fun z => z c424)) ?_
                  refine o_q (q_ld rfl inferInstance rfl) ?_
                  refine JL.guardT rfl rfl (decide_eq_false (fun z => z c424)) ?_
                  refine o_q (q_fa rfl) ?_
                  refine JL.guardT rfl rfl (decide_eq_false (fun z => z c424)) ?_
                  refine o_q (q_ld rfl inferInstance rfl) ?_
                  refine JL.guardT rfl rfl (decide_eq_false (fun z => z c424)) ?_
                  refine o_q (q_neq rfl rfl) ?_
                  first | refine o_q (q_pickFv (v := .bool _) rfl (decide_eq_false (fun z => z c424)) rfl) ?_ | refine o_q (q_pickF rfl (decide_eq_false (fun z => z c424))) ?_
                  first | refine o_q (q_mvv (v := .bool _) rfl) ?_ | refine o_q (q_mv) ?_
                  refine JL.guardT rfl rfl (decide_eq_false (fun z => z c425)) ?_
                  refine o_q (q_fa rfl) ?_
                  refine JL.guardT rfl rfl (decide_eq_false (fun z => z c425)) ?_
                  refine o_q (q_ld rfl inferInstance rfl) ?_
                  refine JL.guardT rfl rfl (decide_eq_false (fun z => z c425)) ?_
                  refine o_q (q_fa rfl) ?_
                  refine JL.guardT rfl rfl (decide_eq_false (fun z => z c425)) ?_
                  refine o_q (q_ld rfl inferInstance rfl) ?_
                  refine JL.guardT rfl rfl (decide_eq_false (fun z => z c425)) ?_
                  refine o_q (q_neq rfl rfl) ?_
                  first | refine o_q (q_pickFv (v := .bool _) rfl (decide_eq_false (fun z => z c425)) rfl) ?_ | refine o_q (q_pickF rfl (decide_eq_false (fun z => z c425))) ?_
                  first | refine o_q (q_mvv (v := .bool _) rfl) ?_ | refine o_q (q_mv) ?_
                  refine JL.guardT rfl rfl (decide_eq_false (fun z => z c426)) ?_
                  refine o_q (q_fa rfl) ?_
                  refine JL.guardT rfl rfl (decide_eq_false (fun z => z c426)) ?_
                  refine o_q (q_ld rfl inferInstance rfl) ?_
                  refine JL.guardT rfl rfl (decide_eq_false (fun z => z c426)) ?_
                  refine o_q (q_fa rfl) ?_
                  refine JL.guardT rfl rfl (decide_eq_false (fun z => z c426)) ?_
                  refine o_q (q_ld rfl inferInstance rfl) ?_
                  refine JL.guardT rfl rfl (decide_eq_false (fun z => z c426)) ?_
                  refine o_q (q_neq rfl rfl) ?_
                  first | refine o_q (q_pickFv (v := .bool _) rfl (decide_eq_false (fun z => z c426)) rfl) ?_ | refine o_q (q_pickF rfl (decide_eq_false (fun z => z c426))) ?_
                  refine JL.nil ?_
                  exact ⟨(decide (y127.1.Cols ≠ y101.Cols)), rfl, ⟨rfl, rfl, rfl, rfl, rfl, rfl, trivial⟩, ⟨rfl, trivial⟩, ⟨hm, inferInstance⟩, inferInstance⟩
                ·
                  replace hm := ite_F c426 hm
                  refine J.region ?_
                  first | refine o_q (q_mvv (v := .int _ _) rfl) ?_ | refine o_q (q_mv) ?_
                  refine o_q (q_neq rfl rfl) ?_
                  first | refine o_q (q_mvv (v := .bool _) rfl) ?_ | refine o_q (q_mv) ?_
                  refine JL.guardT rfl rfl (decide_eq_false (fun z => z c408)) ?_
                  first | refine o_q (q_mvv (v := .int _ _) rfl) ?_ | refine o_q (q_mv) ?_
                  refine JL.guardT rfl rfl (decide_eq_false (fun z => z c408)) ?_
                  refine o_q (q_neq rfl rfl) ?_
                  first | refine o_q (q_pickFv (v := .bool _) rfl (decide_eq_false (fun z => z c408)) rfl) ?_ | refine o_q (q_pickF rfl (decide_eq_false (fun z => z c408))) ?_
                  first | refine o_q (q_mvv (v := .bool _) rfl) ?_ | refine o_q (q_mv) ?_
                  refine JL.guardT rfl rfl (decide_eq_false (fun z => z c409)) ?_
                  refine o_q (q_lda (vs := [_, _, _]) rfl inferInstance ⟨rfl, rfl, rfl, trivial⟩) ?_
                  refine JL.guardT rfl rfl (decide_eq_false (fun z => z c409)) ?_
                  refine o_call (torsionref06_Valid_fn ⟨_, rfl, ⟨_, _, _, rfl, Sls.mono f120⟩⟩ e414) (fun v410 h411 s412 r413 => ?_)
                  obtain rfl := (show _ = _ from r413)
                  refine JL.guardT rfl rfl (decide_eq_false (fun z => z c409)) ?_
                  refine o_q (q_not rfl) ?_
                  first | refine o_q (q_pickFv (v := .bool _) rfl (decide_eq_false (fun z => z c409)) rfl) ?_ | refine o_q (q_pickF rfl (decide_eq_false (fun z => z c409))) ?_
                  first | refine o_q (q_mvv (v := .bool _) rfl) ?_ | refine o_q (q_mv) ?_
                  refine JL.guardT rfl rfl (congrArg Bool.not (show y415 = true from c416)) ?_
                  refine o_q (q_lda (vs := [_, _, _]) rfl inferInstance ⟨rfl, rfl, rfl, trivial⟩) ?_
                  refine JL.guardT rfl rfl (congrArg Bool.not (show y415 = true from c416)) ?_
                  refine o_call (torsionref06_Valid_fn ⟨_, rfl, ⟨_, _, _, rfl, Sls.mono f135⟩⟩ e421) (fun v417 h418 s419 r420 => ?_)
                  obtain rfl := (show _ = _ from r420)
                  refine JL.guardT rfl rfl (congrArg Bool.not (show y415 = true from c416)) ?_
                  refine o_q (q_not rfl) ?_
                  first | refine o_q (q_pickFv (v := .bool _) rfl (congrArg Bool.not (show y415 = true from c416)) rfl) ?_ | refine o_q (q_pickF rfl (congrArg Bool.not (show y415 = true from c416))) ?_
                  first | refine o_q (q_mvv (v := .bool _) rfl) ?_ | refine o_q (q_mv) ?_
                  refine JL.guardT rfl rfl (congrArg Bool.not (show y422 = true from c423)) ?_
                  refine o_q (q_fa rfl) ?_
                  refine JL.guardT rfl rfl (congrArg Bool.not (show y422 = true from c423)) ?_
                  refine o_q (q_ld rfl inferInstance rfl) ?_
                  refine JL.guardT rfl rfl (congrArg Bool.not (show y422 = true from c423)) ?_
                  refine o_q (q_fa rfl) ?_
                  refine JL.guardT rfl rfl (congrArg Bool.not (show y422 = true from c423)) ?_
                  refine o_q (q_ld rfl inferInstance rfl) ?_
                  refine JL.guardT rfl rfl (congrArg Bool.not (show y422 = true from c423)) ?_
                  refine o_q (q_neq rfl rfl) ?_
                  first | refine o_q (q_pickFv (v := .bool _) rfl (congrArg Bool.not (show y422 = true from c423)) rfl) ?_ | refine o_q (q_pickF rfl (congrArg Bool.not (show y422 = true from c423))) ?_
                  first | refine o_q (q_mvv (v := .bool _) rfl) ?_ | refine o_q (q_mv) ?_
                  refine JL.guardT rfl rfl (decide_eq_false (fun z => z c424)) ?_
                  refine o_q (q_fa rfl) ?_
                  refine JL.guardT rfl rfl (decide_eq_false (fun z => z c424)) ?_
                  refine o_q (q_ld rfl inferInstance rfl) ?_
                  refine JL.guardT rfl rfl (decide_eq_false (fun z => z c424)) ?_
                  refine o_q (q_fa rfl) ?_
                  refine JL.guardT rfl rfl (decide_eq_false (fun z => z c424)) ?_
                  refine o_q (q_ld rfl inferInstance rfl) ?_
                  refine JL.guardT rfl rfl (decide_eq_false (fun z => z c424)) ?_
                  refine o_q (q_neq rfl rfl) ?_
                  first | refine o_q (q_pickFv (v := .bool _) rfl (decide_eq_false (fun z => z c424)) rfl) ?_ | refine o_q (q_pickF rfl (decide_eq_false (fun z => z c424))) ?_
                  first | refine o_q (q_mvv (v := .bool _) rfl) ?_ | refine o_q (q_mv) ?_
                  refine JL.guardT rfl rfl (decide_eq_false (fun z => z c425)) ?_
                  refine o_q (q_fa rfl) ?_
                  refine JL.guardT rfl rfl (decide_eq_false (fun z => z c425)) ?_
                  refine o_q (q_ld rfl inferInstance rfl) ?_
                  refine JL.guardT rfl rfl (decide_eq_false (fun z => z c425)) ?_
                  refine o_q (q_fa rfl) ?_
                  refine JL.guardT rfl rfl (decide_eq_false (fun z => z c425)) ?_
                  refine o_q (q_ld rfl inferInstance rfl) ?_
                  refine JL.guardT rfl rfl (decide_eq_false (fun z => z c425)) ?_
                  refine o_q (q_neq rfl rfl) ?_
                  first | refine o_q (q_pickFv (v := .bool _) rfl (decide_eq_false (fun z => z c425)) rfl) ?_ | refine o_q (q_pickF rfl (decide_eq_false (fun z => z c425))) ?_
                  first | refine o_q (q_mvv (v := .bool _) rfl) ?_ | refine o_q (q_mv) ?_
                  refine JL.guardF rfl rfl (decide_eq_true c426) rfl ?_
                  refine JL.guardF rfl rfl (decide_eq_true c426) rfl ?_
                  refine JL.guardF rfl rfl (decide_eq_true c426) rfl ?_
                  refine JL.guardF rfl rfl (decide_eq_true c426) rfl ?_
                  refine JL.guardF rfl rfl (decide_eq_true c426) rfl ?_
                  first | refine o_q (q_pickTv (v := .bool _) rfl (decide_eq_true c426) rfl) ?_ | refine o_q (q_pickT rfl (decide_eq_true c426)) ?_
                  refine JL.nil ?_
                  exact ⟨true, rfl, ⟨rfl, rfl, rfl, rfl, rfl, rfl, trivial⟩, ⟨rfl, trivial⟩, ⟨hm, inferInstance⟩, inferInstance⟩
              ·
                replace hm := ite_F c425 hm
                refine J.region ?_
                first | refine o_q (q_mvv (v := .int _ _) rfl) ?_ | refine o_q (q_mv) ?_
                refine o_q (q_neq rfl rfl) ?_
                first | refine o_q (q_mvv (v := .bool _) rfl) ?_ | refine o_q (q_mv) ?_
                refine JL.guardT rfl rfl (decide_eq_false (fun z => z c408)) ?_
                first | refine o_q (q_mvv (v := .int _ _) rfl) ?_ | refine o_q (q_mv) ?_
                refine JL.guardT rfl rfl (decide_eq_false (fun z => z c408)) ?_
                refine o_q (q_neq rfl rfl) ?_
                first | refine o_q (q_pickFv (v := .bool _) rfl (decide_eq_false (fun z => z c408)) rfl) ?_ | refine o_q (q_pickF rfl (decide_eq_false (fun z => z c408))) ?_
                first | refine o_q (q_mvv (v := .bool _) rfl) ?_ | refine o_q (q_mv) ?_
                refine JL.guardT rfl rfl (decide_eq_false (fun z => z c409)) ?_
                refine o_q (q_lda (vs := [_, _, _]) rfl inferInstance ⟨rfl, rfl, rfl, trivial⟩) ?_
                refine JL.guardT rfl rfl (decide_eq_false (fun z => z c409)) ?_
                refine o_call (torsionref06_Valid_fn ⟨_, rfl, ⟨_, _, _, rfl, Sls.mono f120⟩⟩ e414) (fun v410 h411 s412 r413 => ?_)
                obtain rfl := (show _ = _ from r413)
                refine JL.guardT rfl rfl (decide_eq_false (fun z => z c409)) ?_
                refine o_q (q_not rfl) ?_
                first | refine o_q (q_pickFv (v := .bool _) rfl (decide_eq_false (fun z => z c409)) rfl) ?_ | refine o_q (q_pickF rfl (decide_eq_false (fun z => z c409))) ?_
                first | refine o_q (q_mvv (v := .bool _) rfl) ?_ | refine o_q (q_mv) ?_
                refine JL.guardT rfl rfl (congrArg Bool.not (show y415 = true from c416)) ?_
                refine o_q (q_lda (vs := [_, _, _]) rfl inferInstance ⟨rfl, rfl, rfl, trivial⟩) ?_
                refine JL.guardT rfl rfl (congrArg Bool.not (show y415 = true from c416)) ?_
                refine o_call (torsionref06_Valid_fn ⟨_, rfl, ⟨_, _, _, rfl, Sls.mono f135⟩⟩ e421) (fun v417 h418 s419 r420 => ?_)
                obtain rfl := (show _ = _ from r420)
                refine JL.guardT rfl rfl (congrArg Bool.not (show y415 = true from c416)) ?_
                refine o_q (q_not rfl) ?_
                first | refine o_q (q_pickFv (v := .bool _) rfl (congrArg Bool.not (show y415 = true from c416)) rfl) ?_ | refine o_q (q_pickF rfl (congrArg Bool.not (show y415 = true from c416))) ?_
                first | refine o_q (q_mvv (v := .bool _) rfl) ?_ | refine o_q (q_mv) ?_
                refine JL.guardT rfl rfl (congrArg Bool.not (show y422 = true from c423)) ?_
                refine o_q (q_fa rfl) ?_
                refine JL.guardT rfl rfl (congrArg Bool.not (show y422 = true from c423)) ?_
                refine o_q (q_ld rfl inferInstance rfl) ?_
                refine JL.guardT rfl rfl (congrArg Bool.not (show y422 = true from c423)) ?_
                refine o_q (q_fa rfl) ?_
                refine JL.guardT rfl rfl (congrArg Bool.not (show y422 = true from c423)) ?_
                refine o_q (q_ld rfl inferInstance rfl) ?_
                refine JL.guardT rfl rfl (congrArg Bool.not (show y422 = true from c423)) ?_
                refine o_q (q_neq rfl rfl) ?_
                first | refine o_q (q_pickFv (v := .bool _) rfl (congrArg Bool.not (show y422 = true from c423)) rfl) ?_ | refine o_q (q_pickF rfl (congrArg Bool.not (show y422 = true from c423))) ?_
                first | refine o_q (q_mvv (v := .bool _) rfl) ?_ | refine o_q (q_mv) ?_
                refine JL.guardT rfl rfl (decide_eq_false (fun z => z c424)) ?_
                refine o_q (q_fa rfl) ?_
                refine JL.guardT rfl rfl (decide_eq_false (fun z => z c424)) ?_
                refine o_q (q_ld rfl inferInstance rfl) ?_
                refine JL.guardT rfl rfl (decide_eq_false (fun z => z c424)) ?_
                refine o_q (q_fa rfl) ?_
                refine JL.guardT rfl rfl (decide_eq_false (fun z => z c424)) ?_
                refine o_q (q_ld rfl inferInstance rfl) ?_
                refine JL.guardT rfl rfl (decide_eq_false (fun z => z c424)) ?_
                refine o_q (q_neq rfl rfl) ?_
                first | refine o_q (q_pickFv (v := .bool _) rfl (decide_eq_false (fun z => z c424)) rfl) ?_ | refine o_q (q_pickF rfl (decide_eq_false (fun z => z c424))) ?_
                first | refine o_q (q_mvv (v := .bool _) rfl) ?_ | refine o_q (q_mv) ?_
                refine JL.guardF rfl rfl (decide_eq_true c425) rfl ?_
                refine JL.guardF rfl rfl (decide_eq_true c425) rfl ?_
                refine JL.guardF rfl rfl (decide_eq_true c425) rfl ?_
                refine JL.guardF rfl rfl (decide_eq_true c425) rfl ?_
                refine JL.guardF rfl rfl (decide_eq_true c425) rfl ?_
                first | refine o_q (q_pickTv (v := .bool _) rfl (decide_eq_true c425) rfl) ?_ | refine o_q (q_pickT rfl (decide_eq_true c425)) ?_
                first | refine o_q (q_mvv (v := .bool _) rfl) ?_ | refine o_q (q_mv) ?_
                refine JL.guardF rfl rfl rfl rfl ?_
                refine JL.guardF rfl rfl rfl rfl ?_
                refine JL.guardF rfl rfl rfl rfl ?_
                refine JL.guardF rfl rfl rfl rfl ?_
                refine JL.guardF rfl rfl rfl rfl ?_
                first | refine o_q (q_pickTv (v := .bool _) rfl rfl rfl) ?_ | refine o_q (q_pickT rfl rfl) ?_
                refine JL.nil ?_
                exact ⟨true, rfl, ⟨rfl, rfl, rfl, rfl, rfl, rfl, trivial⟩, ⟨rfl, trivial⟩, ⟨hm, inferInstance⟩, inferInstance⟩
            ·
              replace hm := ite_F c424 hm
              refine J.region ?_
              first | refine o_q (q_mvv (v := .int _ _) rfl) ?_ | refine o_q (q_mv) ?_
              refine o_q (q_neq rfl rfl) ?_
              first | refine o_q (q_mvv (v := .bool _) rfl) ?_ | refine o_q (q_mv) ?_
              refine JL.guardT rfl rfl (decide_eq_false (fun z => z c408)) ?_
              first | refine o_q (q_mvv (v := .int _ _) rfl) ?_ | refine o_q (q_mv) ?_
              refine JL.guardT rfl rfl (decide_eq_false (fun z => z c408)) ?_
              refine o_q (q_neq rfl rfl) ?_
              first | refine o_q (q_pickFv (v := .bool _) rfl (decide_eq_false (fun z => z c408)) rfl) ?_ | refine o_q (q_pickF rfl (decide_eq_false (fun z => z c408))) ?_
              first | refine o_q (q_mvv (v := .bool _) rfl) ?_ | refine o_q (q_mv) ?_
              refine JL.guardT rfl rfl (decide_eq_false (fun z => z c409)) ?_
              refine o_q (q_lda (vs := [_, _, _]) rfl inferInstance ⟨rfl, rfl, rfl, trivial⟩) ?_
              refine JL.guardT rfl rfl (decide_eq_false (fun z => z c409)) ?_
              refine o_call (torsionref06_Valid_fn ⟨_, rfl, ⟨_, _, _, rfl, Sls.mono f120⟩⟩ e414) (fun v410 h411 s412 r413 => ?_)
              obtain rfl := (show _ = _ from r413)
              refine JL.guardT rfl rfl (decide_eq_false (fun z => z c409)) ?_
              refine o_q (q_not rfl) ?_
              first | refine o_q (q_pickFv (v := .bool _) rfl (decide_eq_false (fun z => z c409)) rfl) ?_ | refine o_q (q_pickF rfl (decide_eq_false (fun z => z c409))) ?_
              first | refine o_q (q_mvv (v := .bool _) rfl) ?_ | refine o_q (q_mv) ?_
              refine JL.guardT rfl rfl (congrArg Bool.not (show y415 = true from c416)) ?_
              refine o_q (q_lda (vs := [_, _, _]) rfl inferInstance ⟨rfl, rfl, rfl, trivial⟩) ?_
              refine JL.guardT rfl rfl (congrArg Bool.not (show y415 = true from c416)) ?_
              refine o_call (torsionref06_Valid_fn ⟨_, rfl, ⟨_, _, _, rfl, Sls.mono f135⟩⟩ e421) (fun v417 h418 s419 r420 => ?_)
              obtain rfl := (show _ = _ from r420)
              refine JL.guardT rfl rfl (congrArg Bool.not (show y415 = true from c416)) ?_
              refine o_q (q_not rfl) ?_
              first | refine o_q (q_pickFv (v := .bool _) rfl (congrArg Bool.not (show y415 = true from c416)) rfl) ?_ | refine o_q (q_pickF rfl (congrArg Bool.not (show y415 = true from c416))) ?_
              first | refine o_q (q_mvv (v := .bool _) rfl) ?_ | refine o_q (q_mv) ?_
              refine JL.guardT rfl rfl (congrArg Bool.not (show y422 = true from c423)) ?_
              refine o_q (q_fa rfl) ?_
              refine JL.guardT rfl rfl (congrArg Bool.not (show y422 = true from c423)) ?_
              refine o_q (q_ld rfl inferInstance rfl) ?_
              refine JL.guardT rfl rfl (congrArg Bool.not (show y422 = true from c423)) ?_
              refine o_q (q_fa rfl) ?_
              refine JL.guardT rfl rfl (congrArg Bool.not (show y422 = true from c423)) ?_
              refine o_q (q_ld rfl inferInstance rfl) ?_
              refine JL.guardT rfl rfl (congrArg Bool.not (show y422 = true from c423)) ?_
              refine o_q (q_neq rfl rfl) ?_
              first | refine o_q (q_pickFv (v := .bool _) rfl (congrArg Bool.not (show y422 = true from c423)) rfl) ?_ | refine o_q (q_pickF rfl (congrArg Bool.not (show y422 = true from c423))) ?_
              first | refine o_q (q_mvv (v := .bool _) rfl) ?_ | refine o_q (q_mv) ?_
              refine JL.guardF rfl rfl (decide_eq_true c424) rfl ?_
              refine JL.guardF rfl rfl (decide_eq_true c424) rfl ?_
              refine JL.guardF rfl rfl (decide_eq_true c424) rfl ?_
              refine JL.guardF rfl rfl (decide_eq_true c424) rfl ?_
              refine JL.guardF rfl rfl (decide_eq_true c424) rfl ?_
              first | refine o_q (q_pickTv (v := .bool _) rfl (decide_eq_true c424) rfl) ?_ | refine o_q (q_pickT rfl (decide_eq_true c424)) ?_
              first | refine o_q (q_mvv (v := .bool _) rfl) ?_ | refine o_q (q_mv) ?_
              refine JL.guardF rfl rfl rfl rfl ?_
              refine JL.guardF rfl rfl rfl rfl ?_
              refine JL.guardF rfl rfl rfl rfl ?_
              refine JL.guardF rfl rfl rfl rfl ?_
              refine JL.guardF rfl rfl rfl rfl ?_
              first | refine o_q (q_pickTv (v := .bool _) rfl rfl rfl) ?_ | refine o_q (q_pickT rfl rfl) ?_
              first | refine o_q (q_mvv (v := .bool _) rfl) ?_ | refine o_q (q_mv) ?_
              refine JL.guardF rfl rfl rfl rfl ?_
              refine JL.guardF rfl rfl rfl rfl ?_
              refine JL.guardF rfl rfl rfl rfl ?_
              refine JL.guardF rfl rfl rfl rfl ?_
              refine JL.guardF rfl rfl rfl rfl ?_
              first | refine o_q (q_pickTv (v := .bool _) rfl rfl rfl) ?_ | refine o_q (q_pickT rfl rfl) ?_
              refine JL.nil ?_
              exact ⟨true, rfl, ⟨rfl, rfl, rfl, rfl, rfl, rfl, trivial⟩, ⟨rfl, trivial⟩, ⟨hm, inferInstance⟩, inferInstance⟩
          ·
            replace hm := ite_F c423 hm
            refine J.region ?_
            first | refine o_q (q_mvv (v := .int _ _) rfl) ?_ | refine o_q (q_mv) ?_
            refine o_q (q_neq rfl rfl) ?_
            first | refine o_q (q_mvv (v := .bool _) rfl) ?_ | refine o_q (q_mv) ?_
            refine JL.guardT rfl rfl (decide_eq_false (fun z => z c408)) ?_
            first | refine o_q (q_mvv (v := .int _ _) rfl) ?_ | refine o_q (q_mv) ?_
            refine JL.guardT rfl rfl (decide_eq_false (fun z => z c408)) ?_
            refine o_q (q_neq rfl rfl) ?_
            first | refine o_q (q_pickFv (v := .bool _) rfl (decide_eq_false (fun z => z c408)) rfl) ?_ | refine o_q (q_pickF rfl (decide_eq_false (fun z => z c408))) ?_
            first | refine o_q (q_mvv (v := .bool _) rfl) ?_ | refine o_q (q_mv) ?_
            refine JL.guardT rfl rfl (decide_eq_false (fun z => z c409)) ?_
            refine o_q (q_lda (vs := [_, _, _]) rfl inferInstance ⟨rfl, rfl, rfl, trivial⟩) ?_
            refine JL.guardT rfl rfl (decide_eq_false (fun z => z c409)) ?_
            refine o_call (torsionref06_Valid_fn ⟨_, rfl, ⟨_, _, _, rfl, Sls.mono f120⟩⟩ e414) (fun v410 h411 s412 r413 => ?_)
            obtain rfl := (show _ = _ from r413)
            refine JL.guardT rfl rfl (decide_eq_false (fun z => z c409)) ?_
            refine o_q (q_not rfl) ?_
            first | refine o_q (q_pickFv (v := .bool _) rfl (decide_eq_false (fun z => z c409)) rfl) ?_ | refine o_q (q_pickF rfl (decide_eq_false (fun z => z c409))) ?_
            first | refine o_q (q_mvv (v := .bool _) rfl) ?_ | refine o_q (q_mv) ?_
            refine JL.guardT rfl rfl (congrArg Bool.not (show y415 = true from c416)) ?_
            refine o_q (q_lda (vs := [_, _, _]) rfl inferInstance ⟨rfl, rfl, rfl, trivial⟩) ?_
            refine JL.guardT rfl rfl (congrArg Bool.not (show y415 = true from c416)) ?_
            refine o_call (torsionref06_Valid_fn ⟨_, rfl, ⟨_, _, _, rfl, Sls.mono f135⟩⟩ e421) (fun v417 h418 s419 r420 => ?_)
            obtain rfl := (show _ = _ from r420)
            refine JL.guardT rfl rfl (congrArg Bool.not (show y415 = true from c416)) ?_
            refine o_q (q_not rfl) ?_
            first | refine o_q (q_pickFv (v := .bool _) rfl (congrArg Bool.not (show y415 = true from c416)) rfl) ?_ | refine o_q (q_pickF rfl (congrArg Bool.not (show y415 = true from c416))) ?_
            first | refine o_q (q_mvv (v := .bool _) rfl) ?_ | refine o_q (q_mv) ?_
            refine JL.guardF rfl rfl (congrArg Bool.not (show y422 = false from (eq_false_of_ne_true c423))) rfl ?_
            refine JL.guardF rfl rfl (congrArg Bool.not (show y422 = false from (eq_false_of_ne_true c423))) rfl ?_
            refine JL.guardF rfl rfl (congrArg Bool.not (show y422 = false from (eq_false_of_ne_true c423))) rfl ?_
            refine JL.guardF rfl rfl (congrArg Bool.not (show y422 = false from (eq_false_of_ne_true c423))) rfl ?_
            refine JL.guardF rfl rfl (congrArg Bool.not (show y422 = false from (eq_false_of_ne_true c423))) rfl ?_
            first | refine o_q (q_pickTv (v := .bool _) rfl (congrArg Bool.not (show y422 = false from (eq_false_of_ne_true c423))) rfl) ?_ | refine o_q (q_pickT rfl (congrArg Bool.not (show y422 = false from (eq_false_of_ne_true c423)))) ?_
            first | refine o_q (q_mvv (v := .bool _) rfl) ?_ | refine o_q (q_mv) ?_
            refine JL.guardF rfl rfl rfl rfl ?_
            refine JL.guardF rfl rfl rfl rfl ?_
            refine JL.guardF rfl rfl rfl rfl ?_
            refine JL.guardF rfl rfl rfl rfl ?_
            refine JL.guardF rfl rfl rfl rfl ?_
            first | refine o_q (q_pickTv (v := .bool _) rfl rfl rfl) ?_ | refine o_q (q_pickT rfl rfl) ?_
            first | refine o_q (q_mvv (v := .bool _) rfl) ?_ | refine o_q (q_mv) ?_
            refine JL.guardF rfl rfl rfl rfl ?_
            refine JL.guardF rfl rfl rfl rfl ?_
            refine JL.guardF rfl rfl rfl rfl ?_
            refine JL.guardF rfl rfl rfl rfl ?_
            refine JL.guardF rfl rfl rfl rfl ?_
            first | refine o_q (q_pickTv (v := .bool _) rfl rfl rfl) ?_ | refine o_q (q_pickT rfl rfl) ?_
            first | refine o_q (q_mvv (v := .bool _) rfl) ?_ | refine o_q (q_mv) ?_
            refine JL.guardF rfl rfl rfl rfl ?_
            refine JL.guardF rfl rfl rfl rfl ?_
            refine JL.guardF rfl rfl rfl rfl ?_
            refine JL.guardF rfl rfl rfl rfl ?_
            refine JL.guardF rfl rfl rfl rfl ?_
            first | refine o_q (q_pickTv (v := .bool _) rfl rfl rfl) ?_ | refine o_q (q_pickT rfl rfl) ?_
            refine JL.nil ?_
            exact ⟨true, rfl, ⟨rfl, rfl, rfl, rfl, rfl, rfl, trivial⟩, ⟨rfl, trivial⟩, ⟨hm, inferInstance⟩, inferInstance⟩
        ·
          replace hm := ite_F c416 hm
          refine J.region ?_
          first | refine o_q (q_mvv (v := .int _ _) rfl) ?_ | refine o_q (q_mv) ?_
          refine o_q (q_neq rfl rfl) ?_
          first | refine o_q (q_mvv (v := .bool _) rfl) ?_ | refine o_q (q_mv) ?_
          refine JL.guardT rfl rfl (decide_eq_false (fun z => z c408)) ?_
          first | refine o_q (q_mvv (v := .int _ _) rfl) ?_ | refine o_q (q_mv) ?_
          refine JL.guardT rfl rfl (decide_eq_false (fun z => z c408)) ?_
          refine o_q (q_neq rfl rfl) ?_
          first | refine o_q (q_pickFv (v := .bool _) rfl (decide_eq_false (fun z => z c408)) rfl) ?_ | refine o_q (q_pickF rfl (decide_eq_false (fun z => z c408))) ?_
          first | refine o_q (q_mvv (v := .bool _) rfl) ?_ | refine o_q (q_mv) ?_
          refine JL.guardT rfl rfl (decide_eq_false (fun z => z c409)) ?_
          refine o_q (q_lda (vs := [_, _, _]) rfl inferInstance ⟨rfl, rfl, rfl, trivial⟩) ?_
          refine JL.guardT rfl rfl (decide_eq_false (fun z => z c409)) ?_
          refine o_call (torsionref06_Valid_fn ⟨_, rfl, ⟨_, _, _, rfl, Sls.mono f120⟩⟩ e414) (fun v410 h411 s412 r413 => ?_)
          obtain rfl := (show _ = _ from r413)
          refine JL.guardT rfl rfl (decide_eq_false (fun z => z c409)) ?_
          refine o_q (q_not rfl) ?_
          first | refine o_q (q_pickFv (v := .bool _) rfl (decide_eq_false (fun z => z c409)) rfl) ?_ | refine o_q (q_pickF rfl (decide_eq_false (fun z => z c409))) ?_
          first | refine o_q (q_mvv (v := .bool _) rfl) ?_ | refine o_q (q_mv) ?_
          refine JL.guardF rfl rfl (congrArg Bool.not (show y415 = false from (eq_false_of_ne_true c416))) rfl ?_
          refine JL.guardF rfl rfl (congrArg Bool.not (show y415 = false from (eq_false_of_ne_true c416))) rfl ?_
          refine JL.guardF rfl rfl (congrArg Bool.not (show y415 = false from (eq_false_of_ne_true c416))) rfl ?_
          first | refine o_q (q_pickTv (v := .bool _) rfl (congrArg Bool.not (show y415 = false from (eq_false_of_ne_true c416))) rfl) ?_ | refine o_q (q_pickT rfl (congrArg Bool.not (show y415 = false from (eq_false_of_ne_true c416)))) ?_
          first | refine o_q (q_mvv (v := .bool _) rfl) ?_ | refine o_q (q_mv) ?_
          refine JL.guardF rfl rfl rfl rfl ?_
          refine JL.guardF rfl rfl rfl rfl ?_
          refine JL.guardF rfl rfl rfl rfl ?_
          refine JL.guardF rfl rfl rfl rfl ?_
          refine JL.guardF rfl rfl rfl rfl ?_
          first | refine o_q (q_pickTv (v := .bool _) rfl rfl rfl) ?_ | refine o_q (q_pickT rfl rfl) ?_
          first | refine o_q (q_mvv (v := .bool _) rfl) ?_ | refine o_q (q_mv) ?_
          refine JL.guardF rfl rfl rfl rfl ?_
          refine JL.guardF rfl rfl rfl rfl ?_
          refine JL.guardF rfl rfl rfl rfl ?_
          refine JL.guardF rfl rfl rfl rfl ?_
          refine JL.guardF rfl rfl rfl rfl ?_
          first | refine o_q (q_pickTv (v := .bool _) rfl rfl rfl) ?_ | refine o_q (q_pickT rfl rfl) ?_
          first | refine o_q (q_mvv (v := .bool _) rfl) ?_ | refine o_q (q_mv) ?_
          refine JL.guardF rfl rfl rfl rfl ?_
          refine JL.guardF rfl rfl rfl rfl ?_
          refine JL.guardF rfl rfl rfl rfl ?_
          refine JL.guardF rfl rfl rfl rfl ?_
          refine JL.guardF rfl rfl rfl rfl ?_
          first | refine o_q (q_pickTv (v := .bool _) rfl rfl rfl) ?_ | refine o_q (q_pickT rfl rfl) ?_
          first | refine o_q (q_mvv (v := .bool _) rfl) ?_ | refine o_q (q_mv) ?_
          refine JL.guardF rfl rfl rfl rfl ?_
          refine JL.guardF rfl rfl rfl rfl ?_
          refine JL.guardF rfl rfl rfl rfl ?_
          refine JL.guardF rfl rfl rfl rfl ?_
          refine JL.guardF rfl rfl rfl rfl ?_
          first | refine o_q (q_pickTv (v := .bool _) rfl rfl rfl) ?_ | refine o_q (q_pickT rfl rfl) ?_
          refine JL.nil ?_
          exact ⟨true, rfl, ⟨rfl, rfl, rfl, rfl, rfl, rfl, trivial⟩, ⟨rfl, trivial⟩, ⟨hm, inferInstance⟩, inferInstance⟩
      ·
        replace hm := ite_F c409 hm
        refine J.region ?_
        first | refine o_q (q_mvv (v := .int _ _) rfl) ?_ | refine o_q (q_mv) ?_
        refine o_q (q_neq rfl rfl) ?_
        first | refine o_q (q_mvv (v := .bool _) rfl) ?_ | refine o_q (q_mv) ?_
        refine JL.guardT rfl rfl (decide_eq_false (fun z => z c408)) ?_
        first | refine o_q (q_mvv (v := .int _ _) rfl) ?_ | refine o_q (q_mv) ?_
        refine JL.guardT rfl rfl (decide_eq_false (fun z => z c408)) ?_
        refine o_q (q_neq rfl rfl) ?_
        first | refine o_q (q_pickFv (v := .bool _) rfl (decide_eq_false (fun z => z c408)) rfl) ?_ | refine o_q (q_pickF rfl (decide_eq_false (fun z => z c408))) ?_
        first | refine o_q (q_mvv (v := .bool _) rfl) ?_ | refine o_q (q_mv) ?_
        refine JL.guardF rfl rfl (decide_eq_true c409) rfl ?_
        refine JL.guardF rfl rfl (decide_eq_true c409) rfl ?_
        refine JL.guardF rfl rfl (decide_eq_true c409) rfl ?_
        first | refine o_q (q_pickTv (v := .bool _) rfl (decide_eq_true c409) rfl) ?_ | refine o_q (q_pickT rfl (decide_eq_true c409)) ?_
        first | refine o_q (q_mvv (v := .bool _) rfl) ?_ | refine o_q (q_mv) ?_
        refine JL.guardF rfl rfl rfl rfl ?_
        refine JL.guardF rfl rfl rfl rfl ?_
        refine JL.guardF rfl rfl rfl rfl ?_
        first | refine o_q (q_pickTv (v := .bool _) rfl rfl rfl) ?_ | refine o_q (q_pickT rfl rfl) ?_
        first | refine o_q (q_mvv (v := .bool _) rfl) ?_ | refine o_q (q_mv) ?_
        refine JL.guardF rfl rfl rfl rfl ?_
        refine JL.guardF rfl rfl rfl rfl ?_
        refine JL.guardF rfl rfl rfl rfl ?_
        refine JL.guardF rfl rfl rfl rfl ?_
        refine JL.guardF rfl rfl rfl rfl ?_
        first | refine o_q (q_pickTv (v := .bool _) rfl rfl rfl) ?_ | refine o_q (q_pickT rfl rfl) ?_
        first | refine o_q (q_mvv (v := .bool _) rfl) ?_ | refine o_q (q_mv) ?_
        refine JL.guardF rfl rfl rfl rfl ?_
        refine JL.guardF rfl rfl rfl rfl ?_
        refine JL.guardF rfl rfl rfl rfl ?_
        refine JL.guardF rfl rfl rfl rfl ?_
        refine JL.guardF rfl rfl rfl rfl ?_
        first | refine o_q (q_pickTv (v := .bool _) rfl rfl rfl) ?_ | refine o_q (q_pickT rfl rfl) ?_
        first | refine o_q (q_mvv (v := .bool _) rfl) ?_ | refine o_q (q_mv) ?_
        refine JL.guardF rfl rfl rfl rfl ?_
        refine JL.guardF rfl rfl rfl rfl ?_
        refine JL.guardF rfl rfl rfl rfl ?_
        refine JL.guardF rfl rfl rfl rfl ?_
        refine JL.guardF rfl rfl rfl rfl ?_
        first | refine o_q (q_pickTv (v := .bool _) rfl rfl rfl) ?_ | refine o_q (q_pickT rfl rfl) ?_
        first | refine o_q (q_mvv (v := .bool _) rfl) ?_ | refine o_q (q_mv) ?_
        refine JL.guardF rfl rfl rfl rfl ?_
        refine JL.guardF rfl rfl rfl rfl ?_
        refine JL.guardF rfl rfl rfl rfl ?_
        refine JL.guardF rfl rfl rfl rfl ?_
        refine JL.guardF rfl rfl rfl rfl ?_
        first | refine o_q (q_pickTv (v := .bool _) rfl rfl rfl) ?_ | refine o_q (q_pickT rfl rfl) ?_
        refine JL.nil ?_
        exact ⟨true, rfl, ⟨rfl, rfl, rfl, rfl, rfl, rfl, trivial⟩, ⟨rfl, trivial⟩, ⟨hm, inferInstance⟩, inferInstance⟩
    ·
      replace hm := ite_F c408 hm
      refine J.region ?_
      first | refine o_q (q_mvv (v := .int _ _) rfl) ?_ | refine o_q (q_mv) ?_
      refine o_q (q_neq rfl rfl) ?_
      first | refine o_q (q_mvv (v := .bool _) rfl) ?_ | refine o_q (q_mv) ?_
      refine JL.guardF rfl rfl (decide_eq_true c408) rfl ?_
      refine JL.guardF rfl rfl (decide_eq_true c408) rfl ?_
      first | refine o_q (q_pickTv (v := .bool _) rfl (decide_eq_true c408) rfl) ?_ | refine o_q (q_pickT rfl (decide_eq_true c408)) ?_
      first | refine o_q (q_mvv (v := .bool _) rfl) ?_ | refine o_q (q_mv) ?_
      refine JL.guardF rfl rfl rfl rfl ?_
      refine JL.guardF rfl rfl rfl rfl ?_
      refine JL.guardF rfl rfl rfl rfl ?_
      first | refine o_q (q_pickTv (v := .bool _) rfl rfl rfl) ?_ | refine o_q (q_pickT rfl rfl) ?_
      first | refine o_q (q_mvv (v := .bool _) rfl) ?_ | refine o_q (q_mv) ?_
      refine JL.guardF rfl rfl rfl rfl ?_
      refine JL.guardF rfl rfl rfl rfl ?_
      refine JL.guardF rfl rfl rfl rfl ?_
      first | refine o_q (q_pickTv (v := .bool _) rfl rfl rfl) ?_ | refine o_q (q_pickT rfl rfl) ?_
      first | refine o_q (q_mvv (v := .bool _) rfl) ?_ | refine o_q (q_mv) ?_
      refine JL.guardF rfl rfl rfl rfl ?_
      refine JL.guardF rfl rfl rfl rfl ?_
      refine JL.guardF rfl rfl rfl rfl ?_
      refine JL.guardF rfl rfl rfl rfl ?_
      refine JL.guardF rfl rfl rfl rfl ?_
      first | refine o_q (q_pickTv (v := .bool _) rfl rfl rfl) ?_ | refine o_q (q_pickT rfl rfl) ?_
      first | refine o_q (q_mvv (v := .bool _) rfl) ?_ | refine o_q (q_mv) ?_
      refine JL.guardF rfl rfl rfl rfl ?_
      refine JL.guardF rfl rfl rfl rfl ?_
      refine JL.guardF rfl rfl rfl rfl ?_
      refine JL.guardF rfl rfl rfl rfl ?_
      refine JL.guardF rfl rfl rfl rfl ?_
      first | refine o_q (q_pickTv (v := .bool _) rfl rfl rfl) ?_ | refine o_q (q_pickT rfl rfl) ?_
      first | refine o_q (q_mvv (v := .bool _) rfl) ?_ | refine o_q (q_mv) ?_
      refine JL.guardF rfl rfl rfl rfl ?_
      refine JL.guardF rfl rfl rfl rfl ?_
      refine JL.guardF rfl rfl rfl rfl ?_
      refine JL.guardF rfl rfl rfl rfl ?_
      refine JL.guardF rfl rfl rfl rfl ?_
      first | refine o_q (q_pickTv (v := .bool _) rfl rfl rfl) ?_ | refine o_q (q_pickT rfl rfl) ?_
      first | refine o_q (q_mvv (v := .bool _) rfl) ?_ | refine o_q (q_mv) ?_
      refine JL.guardF rfl rfl rfl rfl ?_
      refine JL.guardF rfl rfl rfl rfl ?_
      refine JL.guardF rfl rfl rfl rfl ?_
      refine JL.guardF rfl rfl rfl rfl ?_
      refine JL.guardF rfl rfl rfl rfl ?_
      first | refine o_q (q_pickTv (v := .bool _) rfl rfl rfl) ?_ | refine o_q (q_pickT rfl rfl) ?_
      refine JL.nil ?_
      exact ⟨true, rfl, ⟨rfl, rfl, rfl, rfl, rfl, rfl, trivial⟩, ⟨rfl, trivial⟩, ⟨hm, inferInstance⟩, inferInstance⟩
  ·
    rintro v138 σq139 hq139 Lq139 sq139 ⟨hm, hspq139⟩
    refine J.sp hspq139 ?_
    unfold M.torsionlaw06_SparseMultiplies_j3 at hm
    by_cases c156 : v138 = true
    ·
      replace hm := ite_T c156 hm
      refine J.condT rfl c156 ?_
      refine J.seq ?_
      refine J.region ?_
      first | refine o_q (q_asv (v := .bool _) rfl) ?_ | refine o_q (q_as) ?_
      refine JL.nil ?_
      refine J.ret ?_
      obtain rfl := Option.some.inj hm
      exact ret_ok (fn := Try.f6) rfl (.tmp rfl .nil) rfl
    ·
      replace hm := ite_F c156 hm
      refine J.condF rfl (eq_false_of_ne_true c156) ?_
      refine J.skip ?_
      refine J.seq ?_
      obtain ⟨y162, e161, hm⟩ := bnd_some hm
      refine J.region ?_
      refine o_q (q_lda (vs := [_, _, _]) rfl inferInstance ⟨rfl, rfl, rfl, trivial⟩) ?_
      refine o_q (q_lda (vs := [_, _, _]) rfl inferInstance ⟨rfl, rfl, rfl, trivial⟩) ?_
      refine o_call (sparse_Mul_fn ⟨_, rfl, ⟨_, _, _, rfl, Sls.mono f120⟩⟩ ⟨_, rfl, ⟨_, _, _, rfl, Sls.mono f105⟩⟩ e161) (fun v157 h158 s159 r160 => ?_)
      obtain ⟨v163, v164, rfl, r165, r166⟩ := r160
      obtain ⟨_, rfl, p167, n168, c169, rfl, f170⟩ := r165
      obtain rfl := (show _ = _ from r166)
      refine o_q (q_mv) ?_
      refine o_q (q_ex rfl rfl) ?_
      refine o_q (q_ex rfl rfl) ?_
      refine o_al (fun b171 => ?_)
      first | refine o_stc (vs := [.int _ _, .int _ _, .slice _ _ _]) (l' := [.int _ _, .int _ _, .slice _ _ _]) rfl rfl rfl rfl rfl inferInstance rfl rfl ?_ | refine o_stc (vs := [_, _, _]) (l' := [_, _, _]) rfl rfl rfl rfl rfl inferInstance rfl rfl ?_
      first | refine o_q (q_asv (v := .int _ _) rfl) ?_ | refine o_q (q_as) ?_
      refine JL.nil ?_
      refine J.seq ?_
      obtain ⟨y177, e176, hm⟩ := bnd_some hm
      refine J.region ?_
      refine o_q (q_lda (vs := [_, _, _]) rfl inferInstance ⟨rfl, rfl, rfl, trivial⟩) ?_
      refine o_q (q_lda (vs := [_, _, _]) rfl inferInstance ⟨rfl, rfl, rfl, trivial⟩) ?_
      refine o_call (sparse_Mul_fn ⟨_, rfl, ⟨_, _, _, rfl, Sls.mono f61⟩⟩ ⟨_, rfl, ⟨_, _, _, rfl, Sls.mono f135⟩⟩ e176) (fun v172 h173 s174 r175 => ?_)
      obtain ⟨v178, v179, rfl, r180, r181⟩ := r175
      obtain ⟨_, rfl, p182, n183, c184, rfl, f185⟩ := r180
      obtain rfl := (show _ = _ from r181)
      refine o_q (q_mv) ?_
      refine o_q (q_ex rfl rfl) ?_
      refine o_q (q_ex rfl rfl) ?_
      refine o_al (fun b186 => ?_)
      first | refine o_stc (vs := [.int _ _, .int _ _, .slice _ _ _]) (l' := [.int _ _, .int _ _, .slice _ _ _]) rfl rfl rfl rfl rfl inferInstance rfl rfl ?_ | refine o_stc (vs := [_, _, _]) (l' := [_, _, _]) rfl rfl rfl rfl rfl inferInstance rfl rfl ?_
      first | refine o_q (q_asv (v := .int _ _) rfl) ?_ | refine o_q (q_as) ?_
      refine JL.nil ?_
      refine J.seq ?_
      obtain ⟨y192, e191, hm⟩ := bnd_some hm
      obtain ⟨y202, e201, hm⟩ := bnd_some hm
      obtain ⟨y212, e211, hm⟩ := bnd_some hm
      refine J.drawB [b84, b62] [] ?_
      refine JD.loadB 0 (by kernel_rfl) rfl trivial (q_lda (vs := [_, _, _]) rfl inferInstance ⟨rfl, rfl, rfl, trivial⟩) ?_
      refine JD.loadB 2 (by kernel_rfl) rfl trivial (q_lda (vs := [_, _, _]) rfl inferInstance ⟨rfl, rfl, rfl, trivial⟩) ?_
      refine JD.all [1, 8] (by kernel_rfl) rfl ⟨?_, ?_, trivial⟩
      ·
        refine JX.effB rfl rfl trivial ?_
        refine o_call (sparse_Transpose_fn ⟨_, rfl, ⟨_, _, _, rfl, Sls.mono f83⟩⟩ e191) (fun v187 h188 s189 r190 => ?_)
        obtain ⟨_, rfl, p193, n194, c195, rfl, f196⟩ := r190
        refine JL.nil ⟨rfl, inferInstance, inferInstance, ?_⟩
        refine JD.all [3, 8] (by kernel_rfl) rfl ⟨?_, ?_, trivial⟩
        ·
          refine JX.effB rfl rfl trivial ?_
          refine o_call (sparse_Transpose_fn ⟨_, rfl, ⟨_, _, _, rfl, Sls.mono f61⟩⟩ e201) (fun v197 h198 s199 r200 => ?_)
          obtain ⟨_, rfl, p203, n204, c205, rfl, f206⟩ := r200
          refine JL.nil ⟨rfl, inferInstance, inferInstance, ?_⟩
          refine JD.all [4, 8] (by kernel_rfl) rfl ⟨?_, ?_, trivial⟩
          ·
            refine JX.effB rfl rfl trivial ?_
            refine o_call (sparse_Mul_fn ⟨_, rfl, ⟨_, _, _, rfl, Sls.mono f196⟩⟩ ⟨_, rfl, ⟨_, _, _, rfl, Sls.mono f206⟩⟩ e211) (fun v207 h208 s209 r210 => ?_)
            obtain ⟨v213, v214, rfl, r215, r216⟩ := r210
            obtain ⟨_, rfl, p217, n218, c219, rfl, f220⟩ := r215
            obtain rfl := (show _ = _ from r216)
            refine JL.nil ⟨rfl, inferInstance, inferInstance, ?_⟩
            refine JD.calc 5 (by kernel_rfl) rfl trivial ss_subB (q_mv) ?_
            refine JD.calc 6 (by kernel_rfl) rfl trivial ss_subB (q_ex rfl rfl) ?_
            refine JD.calc 7 (by kernel_rfl) rfl trivial ss_subB (q_ex rfl rfl) ?_
            refine JD.one 8 (by kernel_rfl) ?_
            refine JX.effB rfl rfl trivial ?_
            refine o_al (fun b221 => ?_)
            refine JL.nil ⟨rfl, inferInstance, inferInstance, ?_⟩
            refine JD.one 9 (by kernel_rfl) ?_
            refine JX.effB rfl rfl trivial ?_
            first | refine o_stc (vs := [.int _ _, .int _ _, .slice _ _ _]) (l' := [.int _ _, .int _ _, .slice _ _ _]) rfl rfl rfl rfl rfl inferInstance rfl rfl ?_ | refine o_stc (vs := [_, _, _]) (l' := [_, _, _]) rfl rfl rfl rfl rfl inferInstance rfl rfl ?_
            refine JL.nil ⟨rfl, inferInstance, inferInstance, ?_⟩
            first | refine JD.calc 10 (by kernel_rfl) rfl trivial ss_subB (q_asv (v := .int _ _) rfl) ?_ | refine JD.calc 10 (by kernel_rfl) rfl trivial ss_subB (q_as) ?_
            refine JD.done (by kernel_rfl) ?_ _
            --
            refine J.seq ?_
            refine J.seq ?_
            refine J.joinK (α := Bool) (fun v223 h' L' => (M.torsionlaw06_SparseMultiplies_j2 y41 y57 y79 y112) v223 = some r ∧ Sp ([(b62, row 24 [.int .i64 y57.Rows, .int .i64 y57.Cols, .slice p58 n59 c60]), (b84, row 24 [.int .i64 y79.Rows, .int .i64 y79.Cols, .slice p80 n81 c82]), (b121, row 24 [.int .i64 y112.1.Rows, .int .i64 y112.1.Cols, .slice p117 n118 c119])]) L') [(7, .bool _), (8, .pointer _), (9, .pointer _), (11, .pointer _)] ⟨rfl, rfl, rfl, rfl, trivial⟩ (fun v223 => [(152, .bool v223)]) ?_ ?_
            ·
              by_cases c355 : y162.2 = 0
              ·
                replace hm := ite_T c355 hm
                by_cases c356 : y177.2 = 0
                ·
                  replace hm := ite_T c356 hm
                  by_cases c357 : y212.2 = 0
                  ·
                    replace hm := ite_T c357 hm
                    obtain ⟨y363, e362, hm⟩ := bnd_some hm
                    by_cases c364 : y363 = true
                    ·
                      replace hm := ite_T c364 hm
                      obtain ⟨y370, e369, hm⟩ := bnd_some hm
                      obtain ⟨y380, e379, hm⟩ := bnd_some hm
                      by_cases c381 : y380 = true
                      ·
                        replace hm := ite_T c381 hm
                        obtain ⟨y387, e386, hm⟩ := bnd_some hm
                        obtain ⟨y397, e396, hm⟩ := bnd_some hm
                        obtain ⟨y407, e406, hm⟩ := bnd_some hm
                        refine J.drawB [b171, b186, b221, b121, b62] [] ?_
                        first | refine JD.calc 0 (by kernel_rfl) rfl trivial ss_subB (q_mvv (v := .int _ _) rfl) ?_ | refine JD.calc 0 (by kernel_rfl) rfl trivial ss_subB (q_mv) ?_
                        refine JD.calc 1 (by kernel_rfl) rfl trivial ss_subB (q_neq rfl rfl) ?_
                        first | refine JD.calc 2 (by kernel_rfl) rfl trivial ss_subB (q_mvv (v := .bool _) rfl) ?_ | refine JD.calc 2 (by kernel_rfl) rfl trivial ss_subB (q_mv) ?_
                        first | refine JD.calc 3 (by kernel_rfl) rfl ⟨_, rfl, (congrArg Value.bool (decide_eq_false (fun z => z c355)))⟩ ss_subB (q_mvv (v := .int _ _) rfl) ?_ | refine JD.calc 3 (by kernel_rfl) rfl ⟨_, rfl, (congrArg Value.bool (decide_eq_false (fun z => z c355)))⟩ ss_subB (q_mv) ?_
                        refine JD.calc 4 (by kernel_rfl) rfl ⟨_, rfl, (congrArg Value.bool (decide_eq_false (fun z => z c355)))⟩ ss_subB (q_neq rfl rfl) ?_
                        first | refine JD.calc 5 (by kernel_rfl) rfl trivial ss_subB (q_pickFv (v := .bool _) rfl (decide_eq_false (fun z => z c355)) rfl) ?_ | refine JD.calc 5 (by kernel_rfl) rfl trivial ss_subB (q_pickF rfl (decide_eq_false (fun z => z c355))) ?_
                        first | refine JD.calc 6 (by kernel_rfl) rfl trivial ss_subB (q_mvv (v := .bool _) rfl) ?_ | refine JD.calc 6 (by kernel_rfl) rfl trivial ss_subB (q_mv) ?_
                        first | refine JD.calc 7 (by kernel_rfl) rfl ⟨_, rfl, (congrArg Value.bool (decide_eq_false (fun z => z c356)))⟩ ss_subB (q_mvv (v := .int _ _) rfl) ?_ | refine JD.calc 7 (by kernel_rfl) rfl ⟨_, rfl, (congrArg Value.bool (decide_eq_false (fun z => z c356)))⟩ ss_subB (q_mv) ?_
                        refine JD.calc 8 (by kernel_rfl) rfl ⟨_, rfl, (congrArg Value.bool (decide_eq_false (fun z => z c356)))⟩ ss_subB (q_neq rfl rfl) ?_
                        first | refine JD.calc 9 (by kernel_rfl) rfl trivial ss_subB (q_pickFv (v := .bool _) rfl (decide_eq_false (fun z => z c356)) rfl) ?_ | refine JD.calc 9 (by kernel_rfl) rfl trivial ss_subB (q_pickF rfl (decide_eq_false (fun z => z c356))) ?_
                        first | refine JD.calc 10 (by kernel_rfl) rfl trivial ss_subB (q_mvv (v := .bool _) rfl) ?_ | refine JD.calc 10 (by kernel_rfl) rfl trivial ss_subB (q_mv) ?_
                        refine JD.loadB 11 (by kernel_rfl) rfl ⟨_, rfl, (congrArg Value.bool (decide_eq_false (fun z => z c357)))⟩ (q_lda (vs := [_, _, _]) rfl inferInstance ⟨rfl, rfl, rfl, trivial⟩) ?_
                        refine JD.loadB 12 (by kernel_rfl) rfl ⟨_, rfl, (congrArg Value.bool (decide_eq_false (fun z => z c357)))⟩ (q_lda (vs := [_, _, _]) rfl inferInstance ⟨rfl, rfl, rfl, trivial⟩) ?_
                        refine JD.one 13 (by kernel_rfl) ?_
                        refine JX.effB rfl rfl ⟨_, rfl, (congrArg Value.bool (decide_eq_false (fun z => z c357)))⟩ ?_
                        refine o_call (torsionref06_Equal_fn ⟨_, rfl, ⟨_, _, _, rfl, Sls.mono f170⟩⟩ ⟨_, rfl, ⟨_, _, _, rfl, Sls.mono f185⟩⟩ e362) (fun v358 h359 s360 r361 => ?_)
                        obtain rfl := (show _ = _ from r361)
                        refine JL.nil ⟨rfl, inferInstance, inferInstance, ?_⟩
                        refine JD.calc 14 (by kernel_rfl) rfl ⟨_, rfl, (congrArg Value.bool (decide_eq_false (fun z => z c357)))⟩ ss_subB (q_not rfl) ?_
                        first | refine JD.calc 15 (by kernel_rfl) rfl trivial ss_subB (q_pickFv (v := .bool _) rfl (decide_eq_false (fun z => z c357)) rfl) ?_ | refine JD.calc 15 (by kernel_rfl) rfl trivial ss_subB (q_pickF rfl (decide_eq_false (fun z => z c357))) ?_
                        first | refine JD.calc 16 (by kernel_rfl) rfl trivial ss_subB (q_mvv (v := .bool _) rfl) ?_ | refine JD.calc 16 (by kernel_rfl) rfl trivial ss_subB (q_mv) ?_
                        refine JD.loadB 17 (by kernel_rfl) rfl ⟨_, rfl, (congrArg Value.bool (congrArg Bool.not (show y363 = true from c364)))⟩ (q_lda (vs := [_, _, _]) rfl inferInstance ⟨rfl, rfl, rfl, trivial⟩) ?_
                        refine JD.loadB 18 (by kernel_rfl) rfl ⟨_, rfl, (congrArg Value.bool (congrArg Bool.not (show y363 = true from c364)))⟩ (q_lda (vs := [_, _, _]) rfl inferInstance ⟨rfl, rfl, rfl, trivial⟩) ?_
                        refine JD.one 19 (by kernel_rfl) ?_
                        refine JX.effB rfl rfl ⟨_, rfl, (congrArg Value.bool (congrArg Bool.not (show y363 = true from c364)))⟩ ?_
                        refine o_call (sparse_Transpose_fn ⟨_, rfl, ⟨_, _, _, rfl, Sls.mono f120⟩⟩ e369) (fun v365 h366 s367 r368 => ?_)
                        obtain ⟨_, rfl, p371, n372, c373, rfl, f374⟩ := r368
                        refine JL.nil ⟨rfl, inferInstance, inferInstance, ?_⟩
                        refine JD.one 20 (by kernel_rfl) ?_
                        refine JX.effB rfl rfl ⟨_, rfl, (congrArg Value.bool (congrArg Bool.not (show y363 = true from c364)))⟩ ?_
                        refine o_call (torsionref06_Equal_fn ⟨_, rfl, ⟨_, _, _, rfl, Sls.mono f220⟩⟩ ⟨_, rfl, ⟨_, _, _, rfl, Sls.mono f374⟩⟩ e379) (fun v375 h376 s377 r378 => ?_)
                        obtain rfl := (show _ = _ from r378)
                        refine JL.nil ⟨rfl, inferInstance, inferInstance, ?_⟩
                        refine JD.calc 21 (by kernel_rfl) rfl ⟨_, rfl, (congrArg Value.bool (congrArg Bool.not (show y363 = true from c364)))⟩ ss_subB (q_not rfl) ?_
                        first | refine JD.calc 22 (by kernel_rfl) rfl trivial ss_subB (q_pickFv (v := .bool _) rfl (congrArg Bool.not (show y363 = true from c364)) rfl) ?_ | refine JD.calc 22 (by kernel_rfl) rfl trivial ss_subB (q_pickF rfl (congrArg Bool.not (show y363 = true from c364))) ?_
                        first | refine JD.calc 23 (by kernel_rfl) rfl trivial ss_subB (q_mvv (v := .bool _) rfl) ?_ | refine JD.calc 23 (by kernel_rfl) rfl trivial ss_subB (q_mv) ?_
                        refine JD.loadB 24 (by kernel_rfl) rfl ⟨_, rfl, (congrArg Value.bool (congrArg Bool.not (show y380 = true from c381)))⟩ (q_lda (vs := [_, _, _]) rfl inferInstance ⟨rfl, rfl, rfl, trivial⟩) ?_
                        refine JD.loadB 27 (by kernel_rfl) rfl ⟨_, rfl, (congrArg Value.bool (congrArg Bool.not (show y380 = true from c381)))⟩ (q_lda (vs := [_, _, _]) rfl inferInstance ⟨rfl, rfl, rfl, trivial⟩) ?_
                        refine JD.one 25 (by kernel_rfl) ?_
                        refine JX.effB rfl rfl ⟨_, rfl, (congrArg Value.bool (congrArg Bool.not (show y380 = true from c381)))⟩ ?_
                        refine o_call (sparse_Transpose_fn ⟨_, rfl, ⟨_, _, _, rfl, Sls.mono f61⟩⟩ e386) (fun v382 h383 s384 r385 => ?_)
                        obtain ⟨_, rfl, p388, n389, c390, rfl, f391⟩ := r385
                        refine JL.nil ⟨rfl, inferInstance, inferInstance, ?_⟩
                        refine JD.one 26 (by kernel_rfl) ?_
                        refine JX.effB rfl rfl ⟨_, rfl, (congrArg Value.bool (congrArg Bool.not (show y380 = true from c381)))⟩ ?_
                        refine o_call (sparse_Transpose_fn ⟨_, rfl, ⟨_, _, _, rfl, Sls.mono f391⟩⟩ e396) (fun v392 h393 s394 r395 => ?_)
                        obtain ⟨_, rfl, p398, n399, c400, rfl, f401⟩ := r395
                        refine JL.nil ⟨rfl, inferInstance, inferInstance, ?_⟩
                        refine JD.one 28 (by kernel_rfl) ?_
                        refine JX.effB rfl rfl ⟨_, rfl, (congrArg Value.bool (congrArg Bool.not (show y380 = true from c381)))⟩ ?_
                        refine o_call (torsionref06_Equal_fn ⟨_, rfl, ⟨_, _, _, rfl, Sls.mono f401⟩⟩ ⟨_, rfl, ⟨_, _, _, rfl, Sls.mono f61⟩⟩ e406) (fun v402 h403 s404 r405 => ?_)
                        obtain rfl := (show _ = _ from r405)
                        refine JL.nil ⟨rfl, inferInstance, inferInstance, ?_⟩
                        refine JD.calc 29 (by kernel_rfl) rfl ⟨_, rfl, (congrArg Value.bool (congrArg Bool.not (show y380 = true from c381)))⟩ ss_subB (q_not rfl) ?_
                        first | refine JD.calc 30 (by kernel_rfl) rfl trivial ss_subB (q_pickFv (v := .bool _) rfl (congrArg Bool.not (show y380 = true from c381)) rfl) ?_ | refine JD.calc 30 (by kernel_rfl) rfl trivial ss_subB (q_pickF rfl (congrArg Bool.not (show y380 = true from c381))) ?_
                        refine JD.done (by kernel_rfl) ?_ _
                        --
                        exact ⟨(!y407), rfl, ⟨rfl, rfl, rfl, rfl, trivial⟩, ⟨rfl, trivial⟩, ⟨hm, inferInstance⟩, inferInstance⟩
                      ·
                        replace hm := ite_F c381 hm
                        refine J.drawB [b171, b186, b221, b121] [] ?_
                        first | refine JD.calc 0 (by kernel_rfl) rfl trivial ss_subB (q_mvv (v := .int _ _) rfl) ?_ | refine JD.calc 0 (by kernel_rfl) rfl trivial ss_subB (q_mv) ?_
                        refine JD.calc 1 (by kernel_rfl) rfl trivial ss_subB (q_neq rfl rfl) ?_
                        first | refine JD.calc 2 (by kernel_rfl) rfl trivial ss_subB (q_mvv (v := .bool _) rfl) ?_ | refine JD.calc 2 (by kernel_rfl) rfl trivial ss_subB (q_mv) ?_
                        first | refine JD.calc 3 (by kernel_rfl) rfl ⟨_, rfl, (congrArg Value.bool (decide_eq_false (fun z => z c355)))⟩ ss_subB (q_mvv (v := .int _ _) rfl) ?_ | refine JD.calc 3 (by kernel_rfl) rfl ⟨_, rfl, (congrArg Value.bool (decide_eq_false (fun z => z c355)))⟩ ss_subB (q_mv) ?_
                        refine JD.calc 4 (by kernel_rfl) rfl ⟨_, rfl, (congrArg Value.bool (decide_eq_false (fun z => z c355)))⟩ ss_subB (q_neq rfl rfl) ?_
                        first | refine JD.calc 5 (by kernel_rfl) rfl trivial ss_subB (q_pickFv (v := .bool _) rfl (decide_eq_false (fun z => z c355)) rfl) ?_ | refine JD.calc 5 (by kernel_rfl) rfl trivial ss_subB (q_pickF rfl (decide_eq_false (fun z => z c355))) ?_
                        first | refine JD.calc 6 (by kernel_rfl) rfl trivial ss_subB (q_mvv (v := .bool _) rfl) ?_ | refine JD.calc 6 (by kernel_rfl) rfl trivial ss_subB (q_mv) ?_
                        first | refine JD.calc 7 (by kernel_rfl) rfl ⟨_, rfl, (congrArg Value.bool (decide_eq_false (fun z => z c356)))⟩ ss_subB (q_mvv (v := .int _ _) rfl) ?_ | refine JD.calc 7 (by kernel_rfl) rfl ⟨_, rfl, (congrArg Value.bool (decide_eq_false (fun z => z c356)))⟩ ss_subB (q_mv) ?_
                        refine JD.calc 8 (by kernel_rfl) rfl ⟨_, rfl, (congrArg Value.bool (decide_eq_false (fun z => z c356)))⟩ ss_subB (q_neq rfl rfl) ?_
                        first | refine JD.calc 9 (by kernel_rfl) rfl trivial ss_subB (q_pickFv (v := .bool _) rfl (decide_eq_false (fun z => z c356)) rfl) ?_ | refine JD.calc 9 (by kernel_rfl) rfl trivial ss_subB (q_pickF rfl (decide_eq_false (fun z => z c356))) ?_
                        first | refine JD.calc 10 (by kernel_rfl) rfl trivial ss_subB (q_mvv (v := .bool _) rfl) ?_ | refine JD.calc 10 (by kernel_rfl) rfl trivial ss_subB (q_mv) ?_
                        refine JD.loadB 11 (by kernel_rfl) rfl ⟨_, rfl, (congrArg Value.bool (decide_eq_false (fun z => z c357)))⟩ (q_lda (vs := [_, _, _]) rfl inferInstance ⟨rfl, rfl, rfl, trivial⟩) ?_
                        refine JD.loadB 12 (by kernel_rfl) rfl ⟨_, rfl, (congrArg Value.bool (decide_eq_false (fun z => z c357)))⟩ (q_lda (vs := [_, _, _]) rfl inferInstance ⟨rfl, rfl, rfl, trivial⟩) ?_
                        refine JD.one 13 (by kernel_rfl) ?_
                        refine JX.effB rfl rfl ⟨_, rfl, (congrArg Value.bool (decide_eq_false (fun z => z c357)))⟩ ?_
                        refine o_call (torsionref06_Equal_fn ⟨_, rfl, ⟨_, _, _, rfl, Sls.mono f170⟩⟩ ⟨_, rfl, ⟨_, _, _, rfl, Sls.mono f185⟩⟩ e362) (fun v358 h359 s360 r361 => ?_)
                        obtain rfl := (show _ = _ from r361)
                        refine JL.nil ⟨rfl, inferInstance, inferInstance, ?_⟩
                        refine JD.calc 14 (by kernel_rfl) rfl ⟨_, rfl, (congrArg Value.bool (decide_eq_false (fun z => z c357)))⟩ ss_subB (q_not rfl) ?_
                        first | refine JD.calc 15 (by kernel_rfl) rfl trivial ss_subB (q_pickFv (v := .bool _) rfl (decide_eq_false (fun z => z c357)) rfl) ?_ | refine JD.calc 15 (by kernel_rfl) rfl trivial ss_subB (q_pickF rfl (decide_eq_false (fun z => z c357))) ?_
                        first | refine JD.calc 16 (by kernel_rfl) rfl trivial ss_subB (q_mvv (v := .bool _) rfl) ?_ | refine JD.calc 16 (by kernel_rfl) rfl trivial ss_subB (q_mv) ?_
                        refine JD.loadB 17 (by kernel_rfl) rfl ⟨_, rfl, (congrArg Value.bool (congrArg Bool.not (show y363 = true from c364)))⟩ (q_lda (vs := [_, _, _]) rfl inferInstance ⟨rfl, rfl, rfl, trivial⟩) ?_
                        refine JD.loadB 18 (by kernel_rfl) rfl ⟨_, rfl, (congrArg Value.bool (congrArg Bool.not (show y363 = true from c364)))⟩ (q_lda (vs := [_, _, _]) rfl inferInstance ⟨rfl, rfl, rfl, trivial⟩) ?_
                        refine JD.one 19 (by kernel_rfl) ?_
                        refine JX.effB rfl rfl ⟨_, rfl, (congrArg Value.bool (congrArg Bool.not (show y363 = true from c364)))⟩ ?_
                        refine o_call (sparse_Transpose_fn ⟨_, rfl, ⟨_, _, _, rfl, Sls.mono f120⟩⟩ e369) (fun v365 h366 s367 r368 => ?_)
                        obtain ⟨_, rfl, p371, n372, c373, rfl, f374⟩ := r368
                        refine JL.nil ⟨rfl, inferInstance, inferInstance, ?_⟩
                        refine JD.one 20 (by kernel_rfl) ?_
                        refine JX.effB rfl rfl ⟨_, rfl, (congrArg Value.bool (congrArg Bool.not (show y363 = true from c364)))⟩ ?_
                        refine o_call (torsionref06_Equal_fn ⟨_, rfl, ⟨_, _, _, rfl, Sls.mono f220⟩⟩ ⟨_, rfl, ⟨_, _, _, rfl, Sls.mono f374⟩⟩ e379) (fun v375 h376 s377 r378 => ?_)
                        obtain rfl := (show _ = _ from r378)
                        refine JL.nil ⟨rfl, inferInstance, inferInstance, ?_⟩
                        refine JD.calc 21 (by kernel_rfl) rfl ⟨_, rfl, (congrArg Value.bool (congrArg Bool.not (show y363 = true from c364)))⟩ ss_subB (q_not rfl) ?_
                        first | refine JD.calc 22 (by kernel_rfl) rfl trivial ss_subB (q_pickFv (v := .bool _) rfl (congrArg Bool.not (show y363 = true from c364)) rfl) ?_ | refine JD.calc 22 (by kernel_rfl) rfl trivial ss_subB (q_pickF rfl (congrArg Bool.not (show y363 = true from c364))) ?_
                        first | refine JD.calc 23 (by kernel_rfl) rfl trivial ss_subB (q_mvv (v := .bool _) rfl) ?_ | refine JD.calc 23 (by kernel_rfl) rfl trivial ss_subB (q_mv) ?_
                        refine JD.pass 24 (by kernel_rfl) rfl rfl (congrArg Value.bool (congrArg Bool.not (show y380 = false from (eq_false_of_ne_true c381)))) ss_subB ?_
                        refine JD.pass 25 (by kernel_rfl) rfl rfl (congrArg Value.bool (congrArg Bool.not (show y380 = false from (eq_false_of_ne_true c381)))) ss_subB ?_
                        refine JD.pass 26 (by kernel_rfl) rfl rfl (congrArg Value.bool (congrArg Bool.not (show y380 = false from (eq_false_of_ne_true c381)))) ss_subB ?_
                        refine JD.pass 27 (by kernel_rfl) rfl rfl (congrArg Value.bool (congrArg Bool.not (show y380 = false from (eq_false_of_ne_true c381)))) ss_subB ?_
                        refine JD.pass 28 (by kernel_rfl) rfl rfl (congrArg Value.bool (congrArg Bool.not (show y380 = false from (eq_false_of_ne_true c381)))) ss_subB ?_
                        refine JD.pass 29 (by kernel_rfl) rfl rfl (congrArg Value.bool (congrArg Bool.not (show y380 = false from (eq_false_of_ne_true c381)))) ss_subB ?_
                        first | refine JD.calc 30 (by kernel_rfl) rfl trivial ss_subB (q_pickTv (v := .bool _) rfl (congrArg Bool.not (show y380 = false from (eq_false_of_ne_true c381))) rfl) ?_ | refine JD.calc 30 (by kernel_rfl) rfl trivial ss_subB (q_pickT rfl (congrArg Bool.not (show y380 = false from (eq_false_of_ne_true c381)))) ?_
                        refine JD.done (by kernel_rfl) ?_ _
                        --
                        exact ⟨true, rfl, ⟨rfl, rfl, rfl, rfl, trivial⟩, ⟨rfl, trivial⟩, ⟨hm, inferInstance⟩, inferInstance⟩
                    ·
                      replace hm := ite_F c364 hm
                      refine J.drawB [b171, b186] [] ?_
                      first | refine JD.calc 0 (by kernel_rfl) rfl trivial ss_subB (q_mvv (v := .int _ _) rfl) ?_ | refine JD.calc 0 (by kernel_rfl) rfl trivial ss_subB (q_mv) ?_
                      refine JD.calc 1 (by kernel_rfl) rfl trivial ss_subB (q_neq rfl rfl) ?_
                      first | refine JD.calc 2 (by kernel_rfl) rfl trivial ss_subB (q_mvv (v := .bool _) rfl) ?_ | refine JD.calc 2 (by kernel_rfl) rfl trivial ss_subB (q_mv) ?_
                      first | refine JD.calc 3 (by kernel_rfl) rfl ⟨_, rfl, (congrArg Value.bool (decide_eq_false (fun z => z c355)))⟩ ss_subB (q_mvv (v := .int _ _) rfl) ?_ | refine JD.calc 3 (by kernel_rfl) rfl ⟨_, rfl, (congrArg Value.bool (decide_eq_false (fun z => z c355)))⟩ ss_subB (q_mv) ?_
                      refine JD.calc 4 (by kernel_rfl) rfl ⟨_, rfl, (congrArg Value.bool (decide_eq_false (fun z => z c355)))⟩ ss_subB (q_neq rfl rfl) ?_
                      first | refine JD.calc 5 (by kernel_rfl) rfl trivial ss_subB (q_pickFv (v := .bool _) rfl (decide_eq_false (fun z => z c355)) rfl) ?_ | refine JD.calc 5 (by kernel_rfl) rfl trivial ss_subB (q_pickF rfl (decide_eq_false (fun z => z c355))) ?_
                      first | refine JD.calc 6 (by kernel_rfl) rfl trivial ss_subB (q_mvv (v := .bool _) rfl) ?_ | refine JD.calc 6 (by kernel_rfl) rfl trivial ss_subB (q_mv) ?_
                      first | refine JD.calc 7 (by kernel_rfl) rfl ⟨_, rfl, (congrArg Value.bool (decide_eq_false (fun z => z c356)))⟩ ss_subB (q_mvv (v := .int _ _) rfl) ?_ | refine JD.calc 7 (by kernel_rfl) rfl ⟨_, rfl, (congrArg Value.bool (decide_eq_false (fun z => z c356)))⟩ ss_subB (q_mv) ?_
                      refine JD.calc 8 (by kernel_rfl) rfl ⟨_, rfl, (congrArg Value.bool (decide_eq_false (fun z => z c356)))⟩ ss_subB (q_neq rfl rfl) ?_
                      first | refine JD.calc 9 (by kernel_rfl) rfl trivial ss_subB (q_pickFv (v := .bool _) rfl (decide_eq_false (fun z => z c356)) rfl) ?_ | refine JD.calc 9 (by kernel_rfl) rfl trivial ss_subB (q_pickF rfl (decide_eq_false (fun z => z c356))) ?_
                      first | refine JD.calc 10 (by kernel_rfl) rfl trivial ss_subB (q_mvv (v := .bool _) rfl) ?_ | refine JD.calc 10 (by kernel_rfl) rfl trivial ss_subB (q_mv) ?_
                      refine JD.loadB 11 (by kernel_rfl) rfl ⟨_, rfl, (congrArg Value.bool (decide_eq_false (fun z => z c357)))⟩ (q_lda (vs := [_, _, _]) rfl inferInstance ⟨rfl, rfl, rfl, trivial⟩) ?_
                      refine JD.loadB 12 (by kernel_rfl) rfl ⟨_, rfl, (congrArg Value.bool (decide_eq_false (fun z => z c357)))⟩ (q_lda (vs := [_, _, _]) rfl inferInstance ⟨rfl, rfl, rfl, trivial⟩) ?_
                      refine JD.one 13 (by kernel_rfl) ?_
                      refine JX.effB rfl rfl ⟨_, rfl, (congrArg Value.bool (decide_eq_false (fun z => z c357)))⟩ ?_
                      refine o_call (torsionref06_Equal_fn ⟨_, rfl, ⟨_, _, _, rfl, Sls.mono f170⟩⟩ ⟨_, rfl, ⟨_, _, _, rfl, Sls.mono f185⟩⟩ e362) (fun v358 h359 s360 r361 => ?_)
                      obtain rfl := (show _ = _ from r361)
                      refine JL.nil ⟨rfl, inferInstance, inferInstance, ?_⟩
                      refine JD.calc 14 (by kernel_rfl) rfl ⟨_, rfl, (congrArg Value.bool (decide_eq_false (fun z => z c357)))⟩ ss_subB (q_not rfl) ?_
                      first | refine JD.calc 15 (by kernel_rfl) rfl trivial ss_subB (q_pickFv (v := .bool _) rfl (decide_eq_false (fun z => z c357)) rfl) ?_ | refine JD.calc 15 (by kernel_rfl) rfl trivial ss_subB (q_pickF rfl (decide_eq_false (fun z => z c357))) ?_
                      first | refine JD.calc 16 (by kernel_rfl) rfl trivial ss_subB (q_mvv (v := .bool _) rfl) ?_ | refine JD.calc 16 (by kernel_rfl) rfl trivial ss_subB (q_mv) ?_
                      refine JD.pass 17 (by kernel_rfl) rfl rfl (congrArg Value.bool (congrArg Bool.not (show y363 = false from (eq_false_of_ne_true c364)))) ss_subB ?_
                      refine JD.pass 18 (by kernel_rfl) rfl rfl (congrArg Value.bool (congrArg Bool.not (show y363 = false from (eq_false_of_ne_true c364)))) ss_subB ?_
                      refine JD.pass 19 (by kernel_rfl) rfl rfl (congrArg Value.bool (congrArg Bool.not (show y363 = false from (eq_false_of_ne_true c364)))) ss_subB ?_
                      refine JD.pass 20 (by kernel_rfl) rfl rfl (congrArg Value.bool (congrArg Bool.not (show y363 = false from (eq_false_of_ne_true c364)))) ss_subB ?_
                      refine JD.pass 21 (by kernel_rfl) rfl rfl (congrArg Value.bool (congrArg Bool.not (show y363 = false from (eq_false_of_ne_true c364)))) ss_subB ?_
                      first | refine JD.calc 22 (by kernel_rfl) rfl trivial ss_subB (q_pickTv (v := .bool _) rfl (congrArg Bool.not (show y363 = false from (eq_false_of_ne_true c364))) rfl) ?_ | refine JD.calc 22 (by kernel_rfl) rfl trivial ss_subB (q_pickT rfl (congrArg Bool.not (show y363 = false from (eq_false_of_ne_true c364)))) ?_
                      first | refine JD.calc 23 (by kernel_rfl) rfl trivial ss_subB (q_mvv (v := .bool _) rfl) ?_ | refine JD.calc 23 (by kernel_rfl) rfl trivial ss_subB (q_mv) ?_
                      refine JD.pass 24 (by kernel_rfl) rfl rfl rfl ss_subB ?_
                      refine JD.pass 25 (by kernel_rfl) rfl rfl rfl ss_subB ?_
                      refine JD.pass 26 (by kernel_rfl) rfl rfl rfl ss_subB ?_
                      refine JD.pass 27 (by kernel_rfl) rfl rfl rfl ss_subB ?_
                      refine JD.pass 28 (by kernel_rfl) rfl rfl rfl ss_subB ?_
                      refine JD.pass 29 (by kernel_rfl) rfl rfl rfl ss_subB ?_
                      first | refine JD.calc 30 (by kernel_rfl) rfl trivial ss_subB (q_pickTv (v := .bool _) rfl rfl rfl) ?_ | refine JD.calc 30 (by kernel_rfl) rfl trivial ss_subB (q_pickT rfl rfl) ?_
                      refine JD.done (by kernel_rfl) ?_ _
                      --
                      exact ⟨true, rfl, ⟨rfl, rfl, rfl, rfl, trivial⟩, ⟨rfl, trivial⟩, ⟨hm, inferInstance⟩, inferInstance⟩
                  ·
                    replace hm := ite_F c357 hm
                    refine J.drawB [] [] ?_
                    first | refine JD.calc 0 (by kernel_rfl) rfl trivial ss_subB (q_mvv (v := .int _ _) rfl) ?_ | refine JD.calc 0 (by kernel_rfl) rfl trivial ss_subB (q_mv) ?_
                    refine JD.calc 1 (by kernel_rfl) rfl trivial ss_subB (q_neq rfl rfl) ?_
                    first | refine JD.calc 2 (by kernel_rfl) rfl trivial ss_subB (q_mvv (v := .bool _) rfl) ?_ | refine JD.calc 2 (by kernel_rfl) rfl trivial ss_subB (q_mv) ?_
                    first | refine JD.calc 3 (by kernel_rfl) rfl ⟨_, rfl, (congrArg Value.bool (decide_eq_false (fun z => z c355)))⟩ ss_subB (q_mvv (v := .int _ _) rfl) ?_ | refine JD.calc 3 (by kernel_rfl) rfl ⟨_, rfl, (congrArg Value.bool (decide_eq_false (fun z => z c355)))⟩ ss_subB (q_mv) ?_
                    refine JD.calc 4 (by kernel_rfl) rfl ⟨_, rfl, (congrArg Value.bool (decide_eq_false (fun z => z c355)))⟩ ss_subB (q_neq rfl rfl) ?_
                    first | refine JD.calc 5 (by kernel_rfl) rfl trivial ss_subB (q_pickFv (v := .bool _) rfl (decide_eq_false (fun z => z c355)) rfl) ?_ | refine JD.calc 5 (by kernel_rfl) rfl trivial ss_subB (q_pickF rfl (decide_eq_false (fun z => z c355))) ?_
                    first | refine JD.calc 6 (by kernel_rfl) rfl trivial ss_subB (q_mvv (v := .bool _) rfl) ?_ | refine JD.calc 6 (by kernel_rfl) rfl trivial ss_subB (q_mv) ?_
                    first | refine JD.calc 7 (by kernel_rfl) rfl ⟨_, rfl, (congrArg Value.bool (decide_eq_false (fun z => z c356)))⟩ ss_subB (q_mvv (v := .int _ _) rfl) ?_ | refine JD.calc 7 (by kernel_rfl) rfl ⟨_, rfl, (congrArg Value.bool (decide_eq_false (fun z => z c356)))⟩ ss_subB (q_mv) ?_
                    refine JD.calc 8 (by kernel_rfl) rfl ⟨_, rfl, (congrArg Value.bool (decide_eq_false (fun z => z c356)))⟩ ss_subB (q_neq rfl rfl) ?_
                    first | refine JD.calc 9 (by kernel_rfl) rfl trivial ss_subB (q_pickFv (v := .bool _) rfl (decide_eq_false (fun z => z c356)) rfl) ?_ | refine JD.calc 9 (by kernel_rfl) rfl trivial ss_subB (q_pickF rfl (decide_eq_false (fun z => z c356))) ?_
                    first | refine JD.calc 10 (by kernel_rfl) rfl trivial ss_subB (q_mvv (v := .bool _) rfl) ?_ | refine JD.calc 10 (by kernel_rfl) rfl trivial ss_subB (q_mv) ?_
                    refine JD.pass 11 (by kernel_rfl) rfl rfl (congrArg Value.bool (decide_eq_true c357)) ss_subB ?_
                    refine JD.pass 12 (by kernel_rfl) rfl rfl (congrArg Value.bool (decide_eq_true c357)) ss_subB ?_
                    refine JD.pass 13 (by kernel_rfl) rfl rfl (congrArg Value.bool (decide_eq_true c357)) ss_subB ?_
                    refine JD.pass 14 (by kernel_rfl) rfl rfl (congrArg Value.bool (decide_eq_true c357)) ss_subB ?_
                    first | refine JD.calc 15 (by kernel_rfl) rfl trivial ss_subB (q_pickTv (v := .bool _) rfl (decide_eq_true c357) rfl) ?_ | refine JD.calc 15 (by kernel_rfl) rfl trivial ss_subB (q_pickT rfl (decide_eq_true c357)) ?_
                    first | refine JD.calc 16 (by kernel_rfl) rfl trivial ss_subB (q_mvv (v := .bool _) rfl) ?_ | refine JD.calc 16 (by kernel_rfl) rfl trivial ss_subB (q_mv) ?_
                    refine JD.pass 17 (by kernel_rfl) rfl rfl rfl ss_subB ?_
                    refine JD.pass 18 (by kernel_rfl) rfl rfl rfl ss_subB ?_
                    refine JD.pass 19 (by kernel_rfl) rfl rfl rfl ss_subB ?_
                    refine JD.pass 20 (by kernel_rfl) rfl rfl rfl ss_subB ?_
                    refine JD.pass 21 (by kernel_rfl) rfl rfl rfl ss_subB ?_
                    first | refine JD.calc 22 (by kernel_rfl) rfl trivial ss_subB (q_pickTv (v := .bool _) rfl rfl rfl) ?_ | refine JD.calc 22 (by kernel_rfl) rfl trivial ss_subB (q_pickT rfl rfl) ?_
                    first | refine JD.calc 23 (by kernel_rfl) rfl trivial ss_subB (q_mvv (v := .bool _) rfl) ?_ | refine JD.calc 23 (by kernel_rfl) rfl trivial ss_subB (q_mv) ?_
                    refine JD.pass 24 (by kernel_rfl) rfl rfl rfl ss_subB ?_
                    refine JD.pass 25 (by kernel_rfl) rfl rfl rfl ss_subB ?_
                    refine JD.pass 26 (by kernel_rfl) rfl rfl rfl ss_subB ?_
                    refine JD.pass 27 (by kernel_rfl) rfl rfl rfl ss_subB ?_
                    refine JD.pass 28 (by kernel_rfl) rfl rfl rfl ss_subB ?_
                    refine JD.pass 29 (by kernel_rfl) rfl rfl rfl ss_subB ?_
                    first | refine JD.calc 30 (by kernel_rfl) rfl trivial ss_subB (q_pickTv (v := .bool _) rfl rfl rfl) ?_ | refine JD.calc 30 (by kernel_rfl) rfl trivial ss_subB (q_pickT rfl rfl) ?_
                    refine JD.done (by kernel_rfl) ?_ _
                    --
                    exact ⟨true, rfl, ⟨rfl, rfl, rfl, rfl, trivial⟩, ⟨rfl, trivial⟩, ⟨hm, inferInstance⟩, inferInstance⟩
                ·
                  replace hm := ite_F c356 hm
                  refine J.drawB [] [] ?_
                  first | refine JD.calc 0 (by kernel_rfl) rfl trivial ss_subB (q_mvv (v := .int _ _) rfl) ?_ | refine JD.calc 0 (by kernel_rfl) rfl trivial ss_subB (q_mv) ?_
                  refine JD.calc 1 (by kernel_rfl) rfl trivial ss_subB (q_neq rfl rfl) ?_
                  first | refine JD.calc 2 (by kernel_rfl) rfl trivial ss_subB (q_mvv (v := .bool _) rfl) ?_ | refine JD.calc 2 (by kernel_rfl) rfl trivial ss_subB (q_mv) ?_
                  first | refine JD.calc 3 (by kernel_rfl) rfl ⟨_, rfl, (congrArg Value.bool (decide_eq_false (fun z => z c355)))⟩ ss_subB (q_mvv (v := .int _ _) rfl) ?_ | refine JD.calc 3 (by kernel_rfl) rfl ⟨_, rfl, (congrArg Value.bool (decide_eq_false (fun z => z c355)))⟩ ss_subB (q_mv) ?_
                  refine JD.calc 4 (by kernel_rfl) rfl ⟨_, rfl, (congrArg Value.bool (decide_eq_false (fun z => z c355)))⟩ ss_subB (q_neq rfl rfl) ?_
                  first | refine JD.calc 5 (by kernel_rfl) rfl trivial ss_subB (q_pickFv (v := .bool _) rfl (decide_eq_false (fun z => z c355)) rfl) ?_ | refine JD.calc 5 (by kernel_rfl) rfl trivial ss_subB (q_pickF rfl (decide_eq_false (fun z => z c355))) ?_
                  first | refine JD.calc 6 (by kernel_rfl) rfl trivial ss_subB (q_mvv (v := .bool _) rfl) ?_ | refine JD.calc 6 (by kernel_rfl) rfl trivial ss_subB (q_mv) ?_
                  refine JD.pass 7 (by kernel_rfl) rfl rfl (congrArg Value.bool (decide_eq_true c356)) ss_subB ?_
                  refine JD.pass 8 (by kernel_rfl) rfl rfl (congrArg Value.bool (decide_eq_true c356)) ss_subB ?_
                  first | refine JD.calc 9 (by kernel_rfl) rfl trivial ss_subB (q_pickTv (v := .bool _) rfl (decide_eq_true c356) rfl) ?_ | refine JD.calc 9 (by kernel_rfl) rfl trivial ss_subB (q_pickT rfl (decide_eq_true c356)) ?_
                  first | refine JD.calc 10 (by kernel_rfl) rfl trivial ss_subB (q_mvv (v := .bool _) rfl) ?_ | refine JD.calc 10 (by kernel_rfl) rfl trivial ss_subB (q_mv) ?_
                  refine JD.pass 11 (by kernel_rfl) rfl rfl rfl ss_subB ?_
                  refine JD.pass 12 (by kernel_rfl) rfl rfl rfl ss_subB ?_
                  refine JD.pass 13 (by kernel_rfl) rfl rfl rfl ss_subB ?_
                  refine JD.pass 14 (by kernel_rfl) rfl rfl rfl ss_subB ?_
                  first | refine JD.calc 15 (by kernel_rfl) rfl trivial ss_subB (q_pickTv (v := .bool _) rfl rfl rfl) ?_ | refine JD.calc 15 (by kernel_rfl) rfl trivial ss_subB (q_pickT rfl rfl) ?_
                  first | refine JD.calc 16 (by kernel_rfl) rfl trivial ss_subB (q_mvv (v := .bool _) rfl) ?_ | refine JD.calc 16 (by kernel_rfl) rfl trivial ss_subB (q_mv) ?_
                  refine JD.pass 17 (by kernel_rfl) rfl rfl rfl ss_subB ?_
                  refine JD.pass 18 (by kernel_rfl) rfl rfl rfl ss_subB ?_
                  refine JD.pass 19 (by kernel_rfl) rfl rfl rfl ss_subB ?_
                  refine JD.pass 20 (by kernel_rfl) rfl rfl rfl ss_subB ?_
                  refine JD.pass 21 (by kernel_rfl) rfl rfl rfl ss_subB ?_
                  first | refine JD.calc 22 (by kernel_rfl) rfl trivial ss_subB (q_pickTv (v := .bool _) rfl rfl rfl) ?_ | refine JD.calc 22 (by kernel_rfl) rfl trivial ss_subB (q_pickT rfl rfl) ?_
                  first | refine JD.calc 23 (by kernel_rfl) rfl trivial ss_subB (q_mvv (v := .bool _) rfl) ?_ | refine JD.calc 23 (by kernel_rfl) rfl trivial ss_subB (q_mv) ?_
                  refine JD.pass 24 (by kernel_rfl) rfl rfl rfl ss_subB ?_
                  refine JD.pass 25 (by kernel_rfl) rfl rfl rfl ss_subB ?_
                  refine JD.pass 26 (by kernel_rfl) rfl rfl rfl ss_subB ?_
                  refine JD.pass 27 (by kernel_rfl) rfl rfl rfl ss_subB ?_
                  refine JD.pass 28 (by kernel_rfl) rfl rfl rfl ss_subB ?_
                  refine JD.pass 29 (by kernel_rfl) rfl rfl rfl ss_subB ?_
                  first | refine JD.calc 30 (by kernel_rfl) rfl trivial ss_subB (q_pickTv (v := .bool _) rfl rfl rfl) ?_ | refine JD.calc 30 (by kernel_rfl) rfl trivial ss_subB (q_pickT rfl rfl) ?_
                  refine JD.done (by kernel_rfl) ?_ _
                  --
                  exact ⟨true, rfl, ⟨rfl, rfl, rfl, rfl, trivial⟩, ⟨rfl, trivial⟩, ⟨hm, inferInstance⟩, inferInstance⟩
              ·
                replace hm := ite_F c355 hm
                refine J.drawB [] [] ?_
                first | refine JD.calc 0 (by kernel_rfl) rfl trivial ss_subB (q_mvv (v := .int _ _) rfl) ?_ | refine JD.calc 0 (by kernel_rfl) rfl trivial ss_subB (q_mv) ?_
                refine JD.calc 1 (by kernel_rfl) rfl trivial ss_subB (q_neq rfl rfl) ?_
                first | refine JD.calc 2 (by kernel_rfl) rfl trivial ss_subB (q_mvv (v := .bool _) rfl) ?_ | refine JD.calc 2 (by kernel_rfl) rfl trivial ss_subB (q_mv) ?_
                refine JD.pass 3 (by kernel_rfl) rfl rfl (congrArg Value.bool (decide_eq_true c355)) ss_subB ?_
                refine JD.pass 4 (by kernel_rfl) rfl rfl (congrArg Value.bool (decide_eq_true c355)) ss_subB ?_
                first | refine JD.calc 5 (by kernel_rfl) rfl trivial ss_subB (q_pickTv (v := .bool _) rfl (decide_eq_true c355) rfl) ?_ | refine JD.calc 5 (by kernel_rfl) rfl trivial ss_subB (q_pickT rfl (decide_eq_true c355)) ?_
                first | refine JD.calc 6 (by kernel_rfl) rfl trivial ss_subB (q_mvv (v := .bool _) rfl) ?_ | refine JD.calc 6 (by kernel_rfl) rfl trivial ss_subB (q_mv) ?_
                refine JD.pass 7 (by kernel_rfl) rfl rfl rfl ss_subB ?_
                refine JD.pass 8 (by kernel_rfl) rfl rfl rfl ss_subB ?_
                first | refine JD.calc 9 (by kernel_rfl) rfl trivial ss_subB (q_pickTv (v := .bool _) rfl rfl rfl) ?_ | refine JD.calc 9 (by kernel_rfl) rfl trivial ss_subB (q_pickT rfl rfl) ?_
                first | refine JD.calc 10 (by kernel_rfl) rfl trivial ss_subB (q_mvv (v := .bool _) rfl) ?_ | refine JD.calc 10 (by kernel_rfl) rfl trivial ss_subB (q_mv) ?_
                refine JD.pass 11 (by kernel_rfl) rfl rfl rfl ss_subB ?_
                refine JD.pass 12 (by kernel_rfl) rfl rfl rfl ss_subB ?_
                refine JD.pass 13 (by kernel_rfl) rfl rfl rfl ss_subB ?_
                refine JD.pass 14 (by kernel_rfl) rfl rfl rfl ss_subB ?_
                first | refine JD.calc 15 (by kernel_rfl) rfl trivial ss_subB (q_pickTv (v := .bool _) rfl rfl rfl) ?_ | refine JD.calc 15 (by kernel_rfl) rfl trivial ss_subB (q_pickT rfl rfl) ?_
                first | refine JD.calc 16 (by kernel_rfl) rfl trivial ss_subB (q_mvv (v := .bool _) rfl) ?_ | refine JD.calc 16 (by kernel_rfl) rfl trivial ss_subB (q_mv) ?_
                refine JD.pass 17 (by kernel_rfl) rfl rfl rfl ss_subB ?_
                refine JD.pass 18 (by kernel_rfl) rfl rfl rfl ss_subB ?_
                refine JD.pass 19 (by kernel_rfl) rfl rfl rfl ss_subB ?_
                refine JD.pass 20 (by kernel_rfl) rfl rfl rfl ss_subB ?_
                refine JD.pass 21 (by kernel_rfl) rfl rfl rfl ss_subB ?_
                first | refine JD.calc 22 (by kernel_rfl) rfl trivial ss_subB (q_pickTv (v := .bool _) rfl rfl rfl) ?_ | refine JD.calc 22 (by kernel_rfl) rfl trivial ss_subB (q_pickT rfl rfl) ?_
                first | refine JD.calc 23 (by kernel_rfl) rfl trivial ss_subB (q_mvv (v := .bool _) rfl) ?_ | refine JD.calc 23 (by kernel_rfl) rfl trivial ss_subB (q_mv) ?_
                refine JD.pass 24 (by kernel_rfl) rfl rfl rfl ss_subB ?_
                refine JD.pass 25 (by kernel_rfl) rfl rfl rfl ss_subB ?_
                refine JD.pass 26 (by kernel_rfl) rfl rfl rfl ss_subB ?_
                refine JD.pass 27 (by kernel_rfl) rfl rfl rfl ss_subB ?_
                refine JD.pass 28 (by kernel_rfl) rfl rfl rfl ss_subB ?_
                refine JD.pass 29 (by kernel_rfl) rfl rfl rfl ss_subB ?_
                first | refine JD.calc 30 (by kernel_rfl) rfl trivial ss_subB (q_pickTv (v := .bool _) rfl rfl rfl) ?_ | refine JD.calc 30 (by kernel_rfl) rfl trivial ss_subB (q_pickT rfl rfl) ?_
                refine JD.done (by kernel_rfl) ?_ _
                --
                exact ⟨true, rfl, ⟨rfl, rfl, rfl, rfl, trivial⟩, ⟨rfl, trivial⟩, ⟨hm, inferInstance⟩, inferInstance⟩
            ·
              rintro v223 σq224 hq224 Lq224 sq224 ⟨hm, hspq224⟩
              refine J.sp hspq224 ?_
              unfold M.torsionlaw06_SparseMultiplies_j2 at hm
              by_cases c275 : v223 = true
              ·
                replace hm := ite_T c275 hm
                refine J.condT rfl c275 ?_
                refine J.seq ?_
                refine J.region ?_
                first | refine o_q (q_asv (v := .bool _) rfl) ?_ | refine o_q (q_as) ?_
                refine JL.nil ?_
                refine J.ret ?_
                obtain rfl := Option.some.inj hm
                exact ret_ok (fn := Try.f6) rfl (.tmp rfl .nil) rfl
              ·
                replace hm := ite_F c275 hm
                refine J.condF rfl (eq_false_of_ne_true c275) ?_
                refine J.skip ?_
                refine J.seq ?_
                refine J.seq ?_
                refine J.region ?_
                first | refine o_q (q_asv (v := .int _ _) rfl) ?_ | refine o_q (q_as) ?_
                refine JL.nil ?_
                refine J.block ?_
                obtain ⟨k278, hm⟩ := rngN_some hm
                refine J.loopK (α := Int) (fun i277 h' L' => 0 ≤ i277 ∧ forN (M.torsionlaw06_SparseMultiplies_b1 y57 y79 y112) (M.torsionlaw06_SparseMultiplies_k1 y41) y57.Rows i277 () = some r ∧ Sp ([(b62, row 24 [.int .i64 y57.Rows, .int .i64 y57.Cols, .slice p58 n59 c60]), (b84, row 24 [.int .i64 y79.Rows, .int .i64 y79.Cols, .slice p80 n81 c82]), (b121, row 24 [.int .i64 y112.1.Rows, .int .i64 y112.1.Cols, .slice p117 n118 c119])]) L') [(7, .bool _), (8, .pointer _), (9, .pointer _), (11, .pointer _)] ⟨rfl, rfl, rfl, rfl, trivial⟩ (fun i277 => [(21, .int .i64 i277)]) (fun i277 => (y57.Rows - i277).toNat) 0 ⟨Int.le_refl _, hm, inferInstance⟩ ⟨rfl, trivial⟩ ?_
                rintro i277 σq279 hq279 Lq279 sq279 ⟨hle280, hm, hspq279⟩
                refine J.sp hspq279 ?_
                refine J.seq ?_
                refine J.seq ?_
                refine J.region ?_
                first | refine o_q (q_mvv (v := .int _ _) rfl) ?_ | refine o_q (q_mv) ?_
                refine o_q (q_fa rfl) ?_
                refine o_q (q_ld rfl inferInstance rfl) ?_
                refine o_q (q_lss rfl rfl) ?_
                refine JL.nil ?_
                by_cases c283 : i277 < y57.Rows
                ·
                  obtain ⟨o281, hm, hk282⟩ := forN_lt c283 hm
                  unfold M.torsionlaw06_SparseMultiplies_b1 at hm
                  refine J.condT rfl (decide_eq_true c283) ?_
                  have k284 : -9223372036854775808 ≤ i277 + 1 ∧ i277 + 1 ≤ 9223372036854775807 := by omega
                  refine J.skip ?_
                  refine J.seq ?_
                  refine J.block ?_
                  refine J.seq ?_
                  obtain ⟨i286, x285, hi287, hl288, hx289, hm⟩ := nth_some hm
                  obtain ⟨b290, o291, rfl⟩ := Sls.op f61 hl288
                  obtain ⟨us292, hc293, hR294⟩ := Sls.at f61 hx289
                  obtain ⟨p295, n296, c297, rfl, f298⟩ := hR294
                  obtain ⟨y304, e303, hm⟩ := bnd_some hm
                  obtain ⟨y314, e313, hm⟩ := bnd_some hm
                  refine J.drawB [b62, b84] [] ?_
                  refine JD.calc 0 (by kernel_rfl) rfl trivial ss_subB (q_fa rfl) ?_
                  refine JD.loadB 1 (by kernel_rfl) rfl trivial (q_ld rfl inferInstance rfl) ?_
                  first | refine JD.calc 2 (by kernel_rfl) rfl trivial ss_subB (q_mvv (v := .int _ _) rfl) ?_ | refine JD.calc 2 (by kernel_rfl) rfl trivial ss_subB (q_mv) ?_
                  refine JD.calc 3 (by kernel_rfl) rfl trivial ss_subB (q_ian rfl rfl hi287 (by first | exact hl288 | (rw [Sls.len f61]; exact hl288))) ?_
                  refine JD.loadB 4 (by kernel_rfl) rfl trivial (q_ldf rfl hc293) ?_
                  refine JD.calc 5 (by kernel_rfl) rfl trivial ss_subB (q_fa rfl) ?_
                  refine JD.loadB 6 (by kernel_rfl) rfl trivial (q_ld rfl inferInstance rfl) ?_
                  refine JD.loadB 8 (by kernel_rfl) rfl trivial (q_lda (vs := [_, _, _]) rfl inferInstance ⟨rfl, rfl, rfl, trivial⟩) ?_
                  refine JD.one 7 (by kernel_rfl) ?_
                  refine JX.effB rfl rfl trivial ?_
                  refine o_call (torsionref06_Full_fn (Sls.mono f298) e303) (fun v299 h300 s301 r302 => ?_)
                  obtain ⟨p305, n306, c307, rfl, f308⟩ := Sls.op3 r302
                  refine JL.nil ⟨rfl, inferInstance, inferInstance, ?_⟩
                  refine JD.one 9 (by kernel_rfl) ?_
                  refine JX.effB rfl rfl trivial ?_
                  refine o_call (sparse_Times_fn (Sls.mono f308) ⟨_, rfl, ⟨_, _, _, rfl, Sls.mono f83⟩⟩ e313) (fun v309 h310 s311 r312 => ?_)
                  obtain ⟨v315, v316, rfl, r317, r318⟩ := r312
                  obtain ⟨p319, n320, c321, rfl, f322⟩ := Sls.op3 r317
                  obtain rfl := (show _ = _ from r318)
                  refine JL.nil ⟨rfl, inferInstance, inferInstance, ?_⟩
                  refine JD.calc 10 (by kernel_rfl) rfl trivial ss_subB (q_mv) ?_
                  refine JD.calc 11 (by kernel_rfl) rfl trivial ss_subB (q_ex rfl rfl) ?_
                  refine JD.calc 12 (by kernel_rfl) rfl trivial ss_subB (q_ex rfl rfl) ?_
                  first | refine JD.calc 13 (by kernel_rfl) rfl trivial ss_subB (q_asv (v := .slice _ _ _) rfl) ?_ | refine JD.calc 13 (by kernel_rfl) rfl trivial ss_subB (q_as) ?_
                  first | refine JD.calc 14 (by kernel_rfl) rfl trivial ss_subB (q_asv (v := .int _ _) rfl) ?_ | refine JD.calc 14 (by kernel_rfl) rfl trivial ss_subB (q_as) ?_
                  refine JD.done (by kernel_rfl) ?_ _
                  --
                  refine J.seq ?_
                  by_cases c323 : y314.2 = 0
                  ·
                    replace hm := ite_T c323 hm
                    obtain ⟨y329, e328, hm⟩ := bnd_some hm
                    obtain ⟨i335, x334, hi336, hl337, hx338, hm⟩ := nth_some hm
                    obtain ⟨b339, o340, rfl⟩ := Sls.op f120 hl337
                    obtain ⟨us341, hc342, hR343⟩ := Sls.at f120 hx338
                    obtain ⟨p344, n345, c346, rfl, f347⟩ := hR343
                    obtain ⟨y353, e352, hm⟩ := bnd_some hm
                    refine J.drawB [b121] [] ?_
                    first | refine JD.calc 0 (by kernel_rfl) rfl trivial ss_subB (q_mvv (v := .int _ _) rfl) ?_ | refine JD.calc 0 (by kernel_rfl) rfl trivial ss_subB (q_mv) ?_
                    refine JD.calc 1 (by kernel_rfl) rfl trivial ss_subB (q_neq rfl rfl) ?_
                    first | refine JD.calc 2 (by kernel_rfl) rfl trivial ss_subB (q_mvv (v := .bool _) rfl) ?_ | refine JD.calc 2 (by kernel_rfl) rfl trivial ss_subB (q_mv) ?_
                    first | refine JD.calc 3 (by kernel_rfl) rfl ⟨_, rfl, (congrArg Value.bool (decide_eq_false (fun z => z c323)))⟩ ss_subB (q_mvv (v := .slice _ _ _) rfl) ?_ | refine JD.calc 3 (by kernel_rfl) rfl ⟨_, rfl, (congrArg Value.bool (decide_eq_false (fun z => z c323)))⟩ ss_subB (q_mv) ?_
                    refine JD.calc 5 (by kernel_rfl) rfl ⟨_, rfl, (congrArg Value.bool (decide_eq_false (fun z => z c323)))⟩ ss_subB (q_fa rfl) ?_
                    refine JD.loadB 6 (by kernel_rfl) rfl ⟨_, rfl, (congrArg Value.bool (decide_eq_false (fun z => z c323)))⟩ (q_ld rfl inferInstance rfl) ?_
                    first | refine JD.calc 7 (by kernel_rfl) rfl ⟨_, rfl, (congrArg Value.bool (decide_eq_false (fun z => z c323)))⟩ ss_subB (q_mvv (v := .int _ _) rfl) ?_ | refine JD.calc 7 (by kernel_rfl) rfl ⟨_, rfl, (congrArg Value.bool (decide_eq_false (fun z => z c323)))⟩ ss_subB (q_mv) ?_
                    refine JD.calc 8 (by kernel_rfl) rfl ⟨_, rfl, (congrArg Value.bool (decide_eq_false (fun z => z c323)))⟩ ss_subB (q_ian rfl rfl hi336 (by first | exact hl337 | (rw [Sls.len f120]; exact hl337))) ?_
                    refine JD.loadB 9 (by kernel_rfl) rfl ⟨_, rfl, (congrArg Value.bool (decide_eq_false (fun z => z c323)))⟩ (q_ldf rfl hc342) ?_
                    refine JD.one 4 (by kernel_rfl) ?_
                    refine JX.effB rfl rfl ⟨_, rfl, (congrArg Value.bool (decide_eq_false (fun z => z c323)))⟩ ?_
                    refine o_call (torsionref06_Row_fn (Sls.mono f322) e328) (fun v324 h325 s326 r327 => ?_)
                    obtain ⟨p330, n331, c332, rfl, f333⟩ := Sls.op3 r327
                    refine JL.nil ⟨rfl, inferInstance, inferInstance, ?_⟩
                    refine JD.one 10 (by kernel_rfl) ?_
                    refine JX.effB rfl rfl ⟨_, rfl, (congrArg Value.bool (decide_eq_false (fun z => z c323)))⟩ ?_
                    refine o_call (torsionref06_SameRow_fn (Sls.mono f333) (Sls.mono f347) e352) (fun v348 h349 s350 r351 => ?_)
                    obtain rfl := (show _ = _ from r351)
                    refine JL.nil ⟨rfl, inferInstance, inferInstance, ?_⟩
                    refine JD.calc 11 (by kernel_rfl) rfl ⟨_, rfl, (congrArg Value.bool (decide_eq_false (fun z => z c323)))⟩ ss_subB (q_not rfl) ?_
                    first | refine JD.calc 12 (by kernel_rfl) rfl trivial ss_subB (q_pickFv (v := .bool _) rfl (decide_eq_false (fun z => z c323)) rfl) ?_ | refine JD.calc 12 (by kernel_rfl) rfl trivial ss_subB (q_pickF rfl (decide_eq_false (fun z => z c323))) ?_
                    refine JD.done (by kernel_rfl) ?_ _
                    --
                    by_cases c354 : y353 = true
                    ·
                      replace hm := ite_T c354 hm
                      refine J.condF rfl (congrArg Bool.not (show y353 = true from c354)) ?_
                      refine J.skip ?_
                      refine J.region ?_
                      first | refine o_q (q_mvv (v := .int _ _) rfl) ?_ | refine o_q (q_mv) ?_
                      refine o_q (q_add rfl rfl (wi64 k284)) ?_
                      first | refine o_q (q_asv (v := .int _ _) rfl) ?_ | refine o_q (q_as) ?_
                      refine JL.nil ?_
                      replace hm := inl_onward hm hk282
                      exact ⟨(i277 + 1), rfl, ⟨rfl, rfl, rfl, rfl, trivial⟩, ⟨rfl, trivial⟩, ⟨Int.le_trans hle280 (Int.le_of_lt (Int.lt_succ _)), hm, inferInstance⟩, (muN c283), inferInstance⟩
                    ·
                      replace hm := ite_F c354 hm
                      refine J.condT rfl (congrArg Bool.not (show y353 = false from (eq_false_of_ne_true c354))) ?_
                      refine J.seq ?_
                      refine J.region ?_
                      first | refine o_q (q_asv (v := .bool _) rfl) ?_ | refine o_q (q_as) ?_
                      refine JL.nil ?_
                      replace hm := inr_onward hm hk282
                      refine J.ret ?_
                      obtain rfl := Option.some.inj hm
                      exact ret_ok (fn := Try.f6) rfl (.tmp rfl .nil) rfl
                  ·
                    replace hm := ite_F c323 hm
                    refine J.drawB [] [] ?_
                    first | refine JD.calc 0 (by kernel_rfl) rfl trivial ss_subB (q_mvv (v := .int _ _) rfl) ?_ | refine JD.calc 0 (by kernel_rfl) rfl trivial ss_subB (q_mv) ?_
                    refine JD.calc 1 (by kernel_rfl) rfl trivial ss_subB (q_neq rfl rfl) ?_
                    first | refine JD.calc 2 (by kernel_rfl) rfl trivial ss_subB (q_mvv (v := .bool _) rfl) ?_ | refine JD.calc 2 (by kernel_rfl) rfl trivial ss_subB (q_mv) ?_
                    refine JD.pass 3 (by kernel_rfl) rfl rfl (congrArg Value.bool (decide_eq_true c323)) ss_subB ?_
                    refine JD.pass 4 (by kernel_rfl) rfl rfl (congrArg Value.bool (decide_eq_true c323)) ss_subB ?_
                    refine JD.pass 5 (by kernel_rfl) rfl rfl (congrArg Value.bool (decide_eq_true c323)) ss_subB ?_
                    refine JD.pass 6 (by kernel_rfl) rfl rfl (congrArg Value.bool (decide_eq_true c323)) ss_subB ?_
                    refine JD.pass 7 (by kernel_rfl) rfl rfl (congrArg Value.bool (decide_eq_true c323)) ss_subB ?_
                    refine JD.pass 8 (by kernel_rfl) rfl rfl (congrArg Value.bool (decide_eq_true c323)) ss_subB ?_
                    refine JD.pass 9 (by kernel_rfl) rfl rfl (congrArg Value.bool (decide_eq_true c323)) ss_subB ?_
                    refine JD.pass 10 (by kernel_rfl) rfl rfl (congrArg Value.bool (decide_eq_true c323)) ss_subB ?_
                    refine JD.pass 11 (by kernel_rfl) rfl rfl (congrArg Value.bool (decide_eq_true c323)) ss_subB ?_
                    first | refine JD.calc 12 (by kernel_rfl) rfl trivial ss_subB (q_pickTv (v := .bool _) rfl (decide_eq_true c323) rfl) ?_ | refine JD.calc 12 (by kernel_rfl) rfl trivial ss_subB (q_pickT rfl (decide_eq_true c323)) ?_
                    refine JD.done (by kernel_rfl) ?_ _
                    --
                    refine J.condT rfl rfl ?_
                    refine J.seq ?_
                    refine J.region ?_
                    first | refine o_q (q_asv (v := .bool _) rfl) ?_ | refine o_q (q_as) ?_
                    refine JL.nil ?_
                    replace hm := inr_onward hm hk282
                    refine J.ret ?_
                    obtain rfl := Option.some.inj hm
                    exact ret_ok (fn := Try.f6) rfl (.tmp rfl .nil) rfl
                ·
                  replace hm := forN_ge c283 hm
                  unfold M.torsionlaw06_SparseMultiplies_k1 at hm
                  refine J.condF rfl (decide_eq_false c283) ?_
                  refine J.exit ?_
                  refine J.seq ?_
                  refine J.region ?_
                  first | refine o_q (q_mvv (v := .bool _) rfl) ?_ | refine o_q (q_mv) ?_
                  first | refine o_q (q_asv (v := .bool _) rfl) ?_ | refine o_q (q_as) ?_
                  refine JL.nil ?_
                  refine J.ret ?_
                  obtain rfl := Option.some.inj hm
                  exact ret_ok (fn := Try.f6) rfl (.tmp rfl .nil) rfl
          ·
            refine JX.effB rfl rfl trivial ?_
            refine o_al (fun b221 => ?_)
            refine JL.nil ⟨rfl, inferInstance, inferInstance, ?_⟩
            refine JD.one 4 (by kernel_rfl) ?_
            refine JX.effB rfl rfl trivial ?_
            refine o_call (sparse_Mul_fn ⟨_, rfl, ⟨_, _, _, rfl, Sls.mono f196⟩⟩ ⟨_, rfl, ⟨_, _, _, rfl, Sls.mono f206⟩⟩ e211) (fun v207 h208 s209 r210 => ?_)
            obtain ⟨v213, v214, rfl, r215, r216⟩ := r210
            obtain ⟨_, rfl, p217, n218, c219, rfl, f220⟩ := r215
            obtain rfl := (show _ = _ from r216)
            refine JL.nil ⟨rfl, inferInstance, inferInstance, ?_⟩
            refine JD.calc 5 (by kernel_rfl) rfl trivial ss_subB (q_mv) ?_
            refine JD.calc 6 (by kernel_rfl) rfl trivial ss_subB (q_ex rfl rfl) ?_
            refine JD.calc 7 (by kernel_rfl) rfl trivial ss_subB (q_ex rfl rfl) ?_
            refine JD.one 9 (by kernel_rfl) ?_
            refine JX.effB rfl rfl trivial ?_
            first | refine o_stc (vs := [.int _ _, .int _ _, .slice _ _ _]) (l' := [.int _ _, .int _ _, .slice _ _ _]) rfl rfl rfl rfl rfl inferInstance rfl rfl ?_ | refine o_stc (vs := [_, _, _]) (l' := [_, _, _]) rfl rfl rfl rfl rfl inferInstance rfl rfl ?_
            refine JL.nil ⟨rfl, inferInstance, inferInstance, ?_⟩
            first | refine JD.calc 10 (by kernel_rfl) rfl trivial ss_subB (q_asv (v := .int _ _) rfl) ?_ | refine JD.calc 10 (by kernel_rfl) rfl trivial ss_subB (q_as) ?_
            refine JD.done (by kernel_rfl) ?_ _
            --
            refine J.seq ?_
            refine J.seq ?_
            refine J.joinK (α := Bool) (fun v223 h' L' => (M.torsionlaw06_SparseMultiplies_j2 y41 y57 y79 y112) v223 = some r ∧ Sp ([(b62, row 24 [.int .i64 y57.Rows, .int .i64 y57.Cols, .slice p58 n59 c60]), (b84, row 24 [.int .i64 y79.Rows, .int .i64 y79.Cols, .slice p80 n81 c82]), (b121, row 24 [.int .i64 y112.1.Rows, .int .i64 y112.1.Cols, .slice p117 n118 c119])]) L') [(7, .bool _), (8, .pointer _), (9, .pointer _), (11, .pointer _)] ⟨rfl, rfl, rfl, rfl, trivial⟩ (fun v223 => [(152, .bool v223)]) ?_ ?_
            ·
              by_cases c355 : y162.2 = 0
              ·
                replace hm := ite_T c355 hm
                by_cases c356 : y177.2 = 0
                ·
                  replace hm := ite_T c356 hm
                  by_cases c357 : y212.2 = 0
                  ·
                    replace hm := ite_T c357 hm
                    obtain ⟨y363, e362, hm⟩ := bnd_some hm
                    by_cases c364 : y363 = true
                    ·
                      replace hm := ite_T c364 hm
                      obtain ⟨y370, e369, hm⟩ := bnd_some hm
                      obtain ⟨y380, e379, hm⟩ := bnd_some hm
                      by_cases c381 : y380 = true
                      ·
                        replace hm := ite_T c381 hm
                        obtain ⟨y387, e386, hm⟩ := bnd_some hm
                        obtain ⟨y397, e396, hm⟩ := bnd_some hm
                        obtain ⟨y407, e406, hm⟩ := bnd_some hm
                        refine J.drawB [b171, b186, b221, b121, b62] [] ?_
                        first | refine JD.calc 0 (by kernel_rfl) rfl trivial ss_subB (q_mvv (v := .int _ _) rfl) ?_ | refine JD.calc 0 (by kernel_rfl) rfl trivial ss_subB (q_mv) ?_
                        refine JD.calc 1 (by kernel_rfl) rfl trivial ss_subB (q_neq rfl rfl) ?_
                        first | refine JD.calc 2 (by kernel_rfl) rfl trivial ss_subB (q_mvv (v := .bool _) rfl) ?_ | refine JD.calc 2 (by kernel_rfl) rfl trivial ss_subB (q_mv) ?_
                        first | refine JD.calc 3 (by kernel_rfl) rfl ⟨_, rfl, (congrArg Value.bool (decide_eq_false (fun z => z c355)))⟩ ss_subB (q_mvv (v := .int _ _) rfl) ?_ | refine JD.calc 3 (by kernel_rfl) rfl ⟨_, rfl, (congrArg Value.bool (decide_eq_false (fun z => z c355)))⟩ ss_subB (q_mv) ?_
                        refine JD.calc 4 (by kernel_rfl) rfl ⟨_, rfl, (congrArg Value.bool (decide_eq_false (fun z => z c355)))⟩ ss_subB (q_neq rfl rfl) ?_
                        first | refine JD.calc 5 (by kernel_rfl) rfl trivial ss_subB (q_pickFv (v := .bool _) rfl (decide_eq_false (fun z => z c355)) rfl) ?_ | refine JD.calc 5 (by kernel_rfl) rfl trivial ss_subB (q_pickF rfl (decide_eq_false (fun z => z c355))) ?_
                        first | refine JD.calc 6 (by kernel_rfl) rfl trivial ss_subB (q_mvv (v := .bool _) rfl) ?_ | refine JD.calc 6 (by kernel_rfl) rfl trivial ss_subB (q_mv) ?_
                        first | refine JD.calc 7 (by kernel_rfl) rfl ⟨_, rfl, (congrArg Value.bool (decide_eq_false (fun z => z c356)))⟩ ss_subB (q_mvv (v := .int _ _) rfl) ?_ | refine JD.calc 7 (by kernel_rfl) rfl ⟨_, rfl, (congrArg Value.bool (decide_eq_false (fun z => z c356)))⟩ ss_subB (q_mv) ?_
                        refine JD.calc 8 (by kernel_rfl) rfl ⟨_, rfl, (congrArg Value.bool (decide_eq_false (fun z => z c356)))⟩ ss_subB (q_neq rfl rfl) ?_
                        first | refine JD.calc 9 (by kernel_rfl) rfl trivial ss_subB (q_pickFv (v := .bool _) rfl (decide_eq_false (fun z => z c356)) rfl) ?_ | refine JD.calc 9 (by kernel_rfl) rfl trivial ss_subB (q_pickF rfl (decide_eq_false (fun z => z c356))) ?_
                        first | refine JD.calc 10 (by kernel_rfl) rfl trivial ss_subB (q_mvv (v := .bool _) rfl) ?_ | refine JD.calc 10 (by kernel_rfl) rfl trivial ss_subB (q_mv) ?_
                        refine JD.loadB 11 (by kernel_rfl) rfl ⟨_, rfl, (congrArg Value.bool (decide_eq_false (fun z => z c357)))⟩ (q_lda (vs := [_, _, _]) rfl inferInstance ⟨rfl, rfl, rfl, trivial⟩) ?_
                        refine JD.loadB 12 (by kernel_rfl) rfl ⟨_, rfl, (congrArg Value.bool (decide_eq_false (fun z => z c357)))⟩ (q_lda (vs := [_, _, _]) rfl inferInstance ⟨rfl, rfl, rfl, trivial⟩) ?_
                        refine JD.one 13 (by kernel_rfl) ?_
                        refine JX.effB rfl rfl ⟨_, rfl, (congrArg Value.bool (decide_eq_false (fun z => z c357)))⟩ ?_
                        refine o_call (torsionref06_Equal_fn ⟨_, rfl, ⟨_, _, _, rfl, Sls.mono f170⟩⟩ ⟨_, rfl, ⟨_, _, _, rfl, Sls.mono f185⟩⟩ e362) (fun v358 h359 s360 r361 => ?_)
                        obtain rfl := (show _ = _ from r361)
                        refine JL.nil ⟨rfl, inferInstance, inferInstance, ?_⟩
                        refine JD.calc 14 (by kernel_rfl) rfl ⟨_, rfl, (congrArg Value.bool (decide_eq_false (fun z => z c357)))⟩ ss_subB (q_not rfl) ?_
                        first | refine JD.calc 15 (by kernel_rfl) rfl trivial ss_subB (q_pickFv (v := .bool _) rfl (decide_eq_false (fun z => z c357)) rfl) ?_ | refine JD.calc 15 (by kernel_rfl) rfl trivial ss_subB (q_pickF rfl (decide_eq_false (fun z => z c357))) ?_
                        first | refine JD.calc 16 (by kernel_rfl) rfl trivial ss_subB (q_mvv (v := .bool _) rfl) ?_ | refine JD.calc 16 (by kernel_rfl) rfl trivial ss_subB (q_mv) ?_
                        refine JD.loadB 17 (by kernel_rfl) rfl ⟨_, rfl, (congrArg Value.bool (congrArg Bool.not (show y363 = true from c364)))⟩ (q_lda (vs := [_, _, _]) rfl inferInstance ⟨rfl, rfl, rfl, trivial⟩) ?_
                        refine JD.loadB 18 (by kernel_rfl) rfl ⟨_, rfl, (congrArg Value.bool (congrArg Bool.not (show y363 = true from c364)))⟩ (q_lda (vs := [_, _, _]) rfl inferInstance ⟨rfl, rfl, rfl, trivial⟩) ?_
                        refine JD.one 19 (by kernel_rfl) ?_
                        refine JX.effB rfl rfl ⟨_, rfl, (congrArg Value.bool (congrArg Bool.not (show y363 = true from c364)))⟩ ?_
                        refine o_call (sparse_Transpose_fn ⟨_, rfl, ⟨_, _, _, rfl, Sls.mono f120⟩⟩ e369) (fun v365 h366 s367 r368 => ?_)
                        obtain ⟨_, rfl, p371, n372, c373, rfl, f374⟩ := r368
                        refine JL.nil ⟨rfl, inferInstance, inferInstance, ?_⟩
                        refine JD.one 20 (by kernel_rfl) ?_
                        refine JX.effB rfl rfl ⟨_, rfl, (congrArg Value.bool (congrArg Bool.not (show y363 = true from c364)))⟩ ?_
                        refine o_call (torsionref06_Equal_fn ⟨_, rfl, ⟨_, _, _, rfl, Sls.mono f220⟩⟩ ⟨_, rfl, ⟨_, _, _, rfl, Sls.mono f374⟩⟩ e379) (fun v375 h376 s377 r378 => ?_)
                        obtain rfl := (show _ = _ from r378)
                        refine JL.nil ⟨rfl, inferInstance, inferInstance, ?_⟩
                        refine JD.calc 21 (by kernel_rfl) rfl ⟨_, rfl, (congrArg Value.bool (congrArg Bool.not (show y363 = true from c364)))⟩ ss_subB (q_not rfl) ?_
                        first | refine JD.calc 22 (by kernel_rfl) rfl trivial ss_subB (q_pickFv (v := .bool _) rfl (congrArg Bool.not (show y363 = true from c364)) rfl) ?_ | refine JD.calc 22 (by kernel_rfl) rfl trivial ss_subB (q_pickF rfl (congrArg Bool.not (show y363 = true from c364))) ?_
                        first | refine JD.calc 23 (by kernel_rfl) rfl trivial ss_subB (q_mvv (v := .bool _) rfl) ?_ | refine JD.calc 23 (by kernel_rfl) rfl trivial ss_subB (q_mv) ?_
                        refine JD.loadB 24 (by kernel_rfl) rfl ⟨_, rfl, (congrArg Value.bool (congrArg Bool.not (show y380 = true from c381)))⟩ (q_lda (vs := [_, _, _]) rfl inferInstance ⟨rfl, rfl, rfl, trivial⟩) ?_
                        refine JD.loadB 27 (by kernel_rfl) rfl ⟨_, rfl, (congrArg Value.bool (congrArg Bool.not (show y380 = true from c381)))⟩ (q_lda (vs := [_, _, _]) rfl inferInstance ⟨rfl, rfl, rfl, trivial⟩) ?_
                        refine JD.one 25 (by kernel_rfl) ?_
                        refine JX.effB rfl rfl ⟨_, rfl, (congrArg Value.bool (congrArg Bool.not (show y380 = true from c381)))⟩ ?_
                        refine o_call (sparse_Transpose_fn ⟨_, rfl, ⟨_, _, _, rfl, Sls.mono f61⟩⟩ e386) (fun v382 h383 s384 r385 => ?_)
                        obtain ⟨_, rfl, p388, n389, c390, rfl, f391⟩ := r385
                        refine JL.nil ⟨rfl, inferInstance, inferInstance, ?_⟩
                        refine JD.one 26 (by kernel_rfl) ?_
                        refine JX.effB rfl rfl ⟨_, rfl, (congrArg Value.bool (congrArg Bool.not (show y380 = true from c381)))⟩ ?_
                        refine o_call (sparse_Transpose_fn ⟨_, rfl, ⟨_, _, _, rfl, Sls.mono f391⟩⟩ e396) (fun v392 h393 s394 r395 => ?_)
                        obtain ⟨_, rfl, p398, n399, c400, rfl, f401⟩ := r395
                        refine JL.nil ⟨rfl, inferInstance, inferInstance, ?_⟩
                        refine JD.one 28 (by kernel_rfl) ?_
                        refine JX.effB rfl rfl ⟨_, rfl, (congrArg Value.bool (congrArg Bool.not (show y380 = true from c381)))⟩ ?_
                        refine o_call (torsionref06_Equal_fn ⟨_, rfl, ⟨_, _, _, rfl, Sls.mono f401⟩⟩ ⟨_, rfl, ⟨_, _, _, rfl, Sls.mono f61⟩⟩ e406) (fun v402 h403 s404 r405 => ?_)
                        obtain rfl := (show _ = _ from r405)
                        refine JL.nil ⟨rfl, inferInstance, inferInstance, ?_⟩
                        refine JD.calc 29 (by kernel_rfl) rfl ⟨_, rfl, (congrArg Value.bool (congrArg Bool.not (show y380 = true from c381)))⟩ ss_subB (q_not rfl) ?_
                        first | refine JD.calc 30 (by kernel_rfl) rfl trivial ss_subB (q_pickFv (v := .bool _) rfl (congrArg Bool.not (show y380 = true from c381)) rfl) ?_ | refine JD.calc 30 (by kernel_rfl) rfl trivial ss_subB (q_pickF rfl (congrArg Bool.not (show y380 = true from c381))) ?_
                        refine JD.done (by kernel_rfl) ?_ _
                        --
                        exact ⟨(!y407), rfl, ⟨rfl, rfl, rfl, rfl, trivial⟩, ⟨rfl, trivial⟩, ⟨hm, inferInstance⟩, inferInstance⟩
                      ·
                        replace hm := ite_F c381 hm
                        refine J.drawB [b171, b186, b221, b121] [] ?_
                        first | refine JD.calc 0 (by kernel_rfl) rfl trivial ss_subB (q_mvv (v := .int _ _) rfl) ?_ | refine JD.calc 0 (by kernel_rfl) rfl trivial ss_subB (q_mv) ?_
                        refine JD.calc 1 (by kernel_rfl) rfl trivial ss_subB (q_neq rfl rfl) ?_
                        first | refine JD.calc 2 (by kernel_rfl) rfl trivial ss_subB (q_mvv (v := .bool _) rfl) ?_ | refine JD.calc 2 (by kernel_rfl) rfl trivial ss_subB (q_mv) ?_
                        first | refine JD.calc 3 (by kernel_rfl) rfl ⟨_, rfl, (congrArg Value.bool (decide_eq_false (fun z => z c355)))⟩ ss_subB (q_mvv (v := .int _ _) rfl) ?_ | refine JD.calc 3 (by kernel_rfl) rfl ⟨_, rfl, (congrArg Value.bool (decide_eq_false (fun z => z c355)))⟩ ss_subB (q_mv) ?_
                        refine JD.calc 4 (by kernel_rfl) rfl ⟨_, rfl, (congrArg Value.bool (decide_eq_false (fun z => z c355)))⟩ ss_subB (q_neq rfl rfl) ?_
                        first | refine JD.calc 5 (by kernel_rfl) rfl trivial ss_subB (q_pickFv (v := .bool _) rfl (decide_eq_false (fun z => z c355)) rfl) ?_ | refine JD.calc 5 (by kernel_rfl) rfl trivial ss_subB (q_pickF rfl (decide_eq_false (fun z => z c355))) ?_
                        first | refine JD.calc 6 (by kernel_rfl) rfl trivial ss_subB (q_mvv (v := .bool _) rfl) ?_ | refine JD.calc 6 (by kernel_rfl) rfl trivial ss_subB (q_mv) ?_
                        first | refine JD.calc 7 (by kernel_rfl) rfl ⟨_, rfl, (congrArg Value.bool (decide_eq_false (fun z => z c356)))⟩ ss_subB (q_mvv (v := .int _ _) rfl) ?_ | refine JD.calc 7 (by kernel_rfl) rfl ⟨_, rfl, (congrArg Value.bool (decide_eq_false (fun z => z c356)))⟩ ss_subB (q_mv) ?_
                        refine JD.calc 8 (by kernel_rfl) rfl ⟨_, rfl, (congrArg Value.bool (decide_eq_false (fun z => z c356)))⟩ ss_subB (q_neq rfl rfl) ?_
                        first | refine JD.calc 9 (by kernel_rfl) rfl trivial ss_subB (q_pickFv (v := .bool _) rfl (decide_eq_false (fun z => z c356)) rfl) ?_ | refine JD.calc 9 (by kernel_rfl) rfl trivial ss_subB (q_pickF rfl (decide_eq_false (fun z => z c356))) ?_
                        first | refine JD.calc 10 (by kernel_rfl) rfl trivial ss_subB (q_mvv (v := .bool _) rfl) ?_ | refine JD.calc 10 (by kernel_rfl) rfl trivial ss_subB (q_mv) ?_
                        refine JD.loadB 11 (by kernel_rfl) rfl ⟨_, rfl, (congrArg Value.bool (decide_eq_false (fun z => z c357)))⟩ (q_lda (vs := [_, _, _]) rfl inferInstance ⟨rfl, rfl, rfl, trivial⟩) ?_
                        refine JD.loadB 12 (by kernel_rfl) rfl ⟨_, rfl, (congrArg Value.bool (decide_eq_false (fun z => z c357)))⟩ (q_lda (vs := [_, _, _]) rfl inferInstance ⟨rfl, rfl, rfl, trivial⟩) ?_
                        refine JD.one 13 (by kernel_rfl) ?_
                        refine JX.effB rfl rfl ⟨_, rfl, (congrArg Value.bool (decide_eq_false (fun z => z c357)))⟩ ?_
                        refine o_call (torsionref06_Equal_fn ⟨_, rfl, ⟨_, _, _, rfl, Sls.mono f170⟩⟩ ⟨_, rfl, ⟨_, _, _, rfl, Sls.mono f185⟩⟩ e362) (fun v358 h359 s360 r361 => ?_)
                        obtain rfl := (show _ = _ from r361)
                        refine JL.nil ⟨rfl, inferInstance, inferInstance, ?_⟩
                        refine JD.calc 14 (by kernel_rfl) rfl ⟨_, rfl, (congrArg Value.bool (decide_eq_false (fun z => z c357)))⟩ ss_subB (q_not rfl) ?_
                        first | refine JD.calc 15 (by kernel_rfl) rfl trivial ss_subB (q_pickFv (v := .bool _) rfl (decide_eq_false (fun z => z c357)) rfl) ?_ | refine JD.calc 15 (by kernel_rfl) rfl trivial ss_subB (q_pickF rfl (decide_eq_false (fun z => z c357))) ?_
                        first | refine JD.calc 16 (by kernel_rfl) rfl trivial ss_subB (q_mvv (v := .bool _) rfl) ?_ | refine JD.calc 16 (by kernel_rfl) rfl trivial ss_subB (q_mv) ?_
                        refine JD.loadB 17 (by kernel_rfl) rfl ⟨_, rfl, (congrArg Value.bool (congrArg Bool.not (show y363 = true from c364)))⟩ (q_lda (vs := [_, _, _]) rfl inferInstance ⟨rfl, rfl, rfl, trivial⟩) ?_
                        refine JD.loadB 18 (by kernel_rfl) rfl ⟨_, rfl, (congrArg Value.bool (congrArg Bool.not (show y363 = true from c364)))⟩ (q_lda (vs := [_, _, _]) rfl inferInstance ⟨rfl, rfl, rfl, trivial⟩) ?_
                        refine JD.one 19 (by kernel_rfl) ?_
                        refine JX.effB rfl rfl ⟨_, rfl, (congrArg Value.bool (congrArg Bool.not (show y363 = true from c364)))⟩ ?_
                        refine o_call (sparse_Transpose_fn ⟨_, rfl, ⟨_, _, _, rfl, Sls.mono f120⟩⟩ e369) (fun v365 h366 s367 r368 => ?_)
                        obtain ⟨_, rfl, p371, n372, c373, rfl, f374⟩ := r368
                        refine JL.nil ⟨rfl, inferInstance, inferInstance, ?_⟩
                        refine JD.one 20 (by kernel_rfl) ?_
                        refine JX.effB rfl rfl ⟨_, rfl, (congrArg Value.bool (congrArg Bool.not (show y363 = true from c364)))⟩ ?_
                        refine o_call (torsionref06_Equal_fn ⟨_, rfl, ⟨_, _, _, rfl, Sls.mono f220⟩⟩ ⟨_, rfl, ⟨_, _, _, rfl, Sls.mono f374⟩⟩ e379) (fun v375 h376 s377 r378 => ?_)
                        obtain rfl := (show _ = _ from r378)
                        refine JL.nil ⟨rfl, inferInstance, inferInstance, ?_⟩
                        refine JD.calc 21 (by kernel_rfl) rfl ⟨_, rfl, (congrArg Value.bool (congrArg Bool.not (show y363 = true from c364)))⟩ ss_subB (q_not rfl) ?_
                        first | refine JD.calc 22 (by kernel_rfl) rfl trivial ss_subB (q_pickFv (v := .bool _) rfl (congrArg Bool.not (show y363 = true from c364)) rfl) ?_ | refine JD.calc 22 (by kernel_rfl) rfl trivial ss_subB (q_pickF rfl (congrArg Bool.not (show y363 = true from c364))) ?_
                        first | refine JD.calc 23 (by kernel_rfl) rfl trivial ss_subB (q_mvv (v := .bool _) rfl) ?_ | refine JD.calc 23 (by kernel_rfl) rfl trivial ss_subB (q_mv) ?_
                        refine JD.pass 24 (by kernel_rfl) rfl rfl (congrArg Value.bool (congrArg Bool.not (show y380 = false from (eq_false_of_ne_true c381)))) ss_subB ?_
                        refine JD.pass 25 (by kernel_rfl) rfl rfl (congrArg Value.bool (congrArg Bool.not (show y380 = false from (eq_false_of_ne_true c381)))) ss_subB ?_
                        refine JD.pass 26 (by kernel_rfl) rfl rfl (congrArg Value.bool (congrArg Bool.not (show y380 = false from (eq_false_of_ne_true c381)))) ss_subB ?_
                        refine JD.pass 27 (by kernel_rfl) rfl rfl (congrArg Value.bool (congrArg Bool.not (show y380 = false from (eq_false_of_ne_true c381)))) ss_subB ?_
                        refine JD.pass 28 (by kernel_rfl) rfl rfl (congrArg Value.bool (congrArg Bool.not (show y380 = false from (eq_false_of_ne_true c381)))) ss_subB ?_
                        refine JD.pass 29 (by kernel_rfl) rfl rfl (congrArg Value.bool (congrArg Bool.not (show y380 = false from (eq_false_of_ne_true c381)))) ss_subB ?_
                        first | refine JD.calc 30 (by kernel_rfl) rfl trivial ss_subB (q_pickTv (v := .bool _) rfl (congrArg Bool.not (show y380 = false from (eq_false_of_ne_true c381))) rfl) ?_ | refine JD.calc 30 (by kernel_rfl) rfl trivial ss_subB (q_pickT rfl (congrArg Bool.not (show y380 = false from (eq_false_of_ne_true c381)))) ?_
                        refine JD.done (by kernel_rfl) ?_ _
                        --
                        exact ⟨true, rfl, ⟨rfl, rfl, rfl, rfl, trivial⟩, ⟨rfl, trivial⟩, ⟨hm, inferInstance⟩, inferInstance⟩
                    ·
                      replace hm := ite_F c364 hm
                      refine J.drawB [b171, b186] [] ?_
                      first | refine JD.calc 0 (by kernel_rfl) rfl trivial ss_subB (q_mvv (v := .int _ _) rfl) ?_ | refine JD.calc 0 (by kernel_rfl) rfl trivial ss_subB (q_mv) ?_
                      refine JD.calc 1 (by kernel_rfl) rfl trivial ss_subB (q_neq rfl rfl) ?_
                      first | refine JD.calc 2 (by kernel_rfl) rfl trivial ss_subB (q_mvv (v := .bool _) rfl) ?_ | refine JD.calc 2 (by kernel_rfl) rfl trivial ss_subB (q_mv) ?_
                      first | refine JD.calc 3 (by kernel_rfl) rfl ⟨_, rfl, (congrArg Value.bool (decide_eq_false (fun z => z c355)))⟩ ss_subB (q_mvv (v := .int _ _) rfl) ?_ | refine JD.calc 3 (by kernel_rfl) rfl ⟨_, rfl, (congrArg Value.bool (decide_eq_false (fun z => z c355)))⟩ ss_subB (q_mv) ?_
                      refine JD.calc 4 (by kernel_rfl) rfl ⟨_, rfl, (congrArg Value.bool (decide_eq_false (fun z => z c355)))⟩ ss_subB (q_neq rfl rfl) ?_
                      first | refine JD.calc 5 (by kernel_rfl) rfl trivial ss_subB (q_pickFv (v := .bool _) rfl (decide_eq_false (fun z => z c355)) rfl) ?_ | refine JD.calc 5 (by kernel_rfl) rfl trivial ss_subB (q_pickF rfl (decide_eq_false (fun z => z c355))) ?_
                      first | refine JD.calc 6 (by kernel_rfl) rfl trivial ss_subB (q_mvv (v := .bool _) rfl) ?_ | refine JD.calc 6 (by kernel_rfl) rfl trivial ss_subB (q_mv) ?_
                      first | refine JD.calc 7 (by kernel_rfl) rfl ⟨_, rfl, (congrArg Value.bool (decide_eq_false (fun z => z c356)))⟩ ss_subB (q_mvv (v := .int _ _) rfl) ?_ | refine JD.calc 7 (by kernel_rfl) rfl ⟨_, rfl, (congrArg Value.bool (decide_eq_false (fun z => z c356)))⟩ ss_subB (q_mv) ?_
                      refine JD.calc 8 (by kernel_rfl) rfl ⟨_, rfl, (congrArg Value.bool (decide_eq_false (fun z => z c356)))⟩ ss_subB (q_neq rfl rfl) ?_
                      first | refine JD.calc 9 (by kernel_rfl) rfl trivial ss_subB (q_pickFv (v := .bool _) rfl (decide_eq_false (fun z => z c356)) rfl) ?_ | refine JD.calc 9 (by kernel_rfl) rfl trivial ss_subB (q_pickF rfl (decide_eq_false (fun z => z c356))) ?_
                      first | refine JD.calc 10 (by kernel_rfl) rfl trivial ss_subB (q_mvv (v := .bool _) rfl) ?_ | refine JD.calc 10 (by kernel_rfl) rfl trivial ss_subB (q_mv) ?_
                      refine JD.loadB 11 (by kernel_rfl) rfl ⟨_, rfl, (congrArg Value.bool (decide_eq_false (fun z => z c357)))⟩ (q_lda (vs := [_, _, _]) rfl inferInstance ⟨rfl, rfl, rfl, trivial⟩) ?_
                      refine JD.loadB 12 (by kernel_rfl) rfl ⟨_, rfl, (congrArg Value.bool (decide_eq_false (fun z => z c357)))⟩ (q_lda (vs := [_, _, _]) rfl inferInstance ⟨rfl, rfl, rfl, trivial⟩) ?_
                      refine JD.one 13 (by kernel_rfl) ?_
                      refine JX.effB rfl rfl ⟨_, rfl, (congrArg Value.bool (decide_eq_false (fun z => z c357)))⟩ ?_
                      refine o_call (torsionref06_Equal_fn ⟨_, rfl, ⟨_, _, _, rfl, Sls.mono f170⟩⟩ ⟨_, rfl, ⟨_, _, _, rfl, Sls.mono f185⟩⟩ e362) (fun v358 h359 s360 r361 => ?_)
                      obtain rfl := (show _ = _ from r361)
                      refine JL.nil ⟨rfl, inferInstance, inferInstance, ?_⟩
                      refine JD.calc 14 (by kernel_rfl) rfl ⟨_, rfl, (congrArg Value.bool (decide_eq_false (fun z => z c357)))⟩ ss_subB (q_not rfl) ?_
                      first | refine JD.calc 15 (by kernel_rfl) rfl trivial ss_subB (q_pickFv (v := .bool _) rfl (decide_eq_false (fun z => z c357)) rfl) ?_ | refine JD.calc 15 (by kernel_rfl) rfl trivial ss_subB (q_pickF rfl (decide_eq_false (fun z => z c357))) ?_
                      first | refine JD.calc 16 (by kernel_rfl) rfl trivial ss_subB (q_mvv (v := .bool _) rfl) ?_ | refine JD.calc 16 (by kernel_rfl) rfl trivial ss_subB (q_mv) ?_
                      refine JD.pass 17 (by kernel_rfl) rfl rfl (congrArg Value.bool (congrArg Bool.not (show y363 = false from (eq_false_of_ne_true c364)))) ss_subB ?_
                      refine JD.pass 18 (by kernel_rfl) rfl rfl (congrArg Value.bool (congrArg Bool.not (show y363 = false from (eq_false_of_ne_true c364)))) ss_subB ?_
                      refine JD.pass 19 (by kernel_rfl) rfl rfl (congrArg Value.bool (congrArg Bool.not (show y363 = false from (eq_false_of_ne_true c364)))) ss_subB ?_
                      refine JD.pass 20 (by kernel_rfl) rfl rfl (congrArg Value.bool (congrArg Bool.not (show y363 = false from (eq_false_of_ne_true c364)))) ss_subB ?_
                      refine JD.pass 21 (by kernel_rfl) rfl rfl (congrArg Value.bool (congrArg Bool.not (show y363 = false from (eq_false_of_ne_true c364)))) ss_subB ?_
                      first | refine JD.calc 22 (by kernel_rfl) rfl trivial ss_subB (q_pickTv (v := .bool _) rfl (congrArg Bool.not (show y363 = false from (eq_false_of_ne_true c364))) rfl) ?_ | refine JD.calc 22 (by kernel_rfl) rfl trivial ss_subB (q_pickT rfl (congrArg Bool.not (show y363 = false from (eq_false_of_ne_true c364)))) ?_
                      first | refine JD.calc 23 (by kernel_rfl) rfl trivial ss_subB (q_mvv (v := .bool _) rfl) ?_ | refine JD.calc 23 (by kernel_rfl) rfl trivial ss_subB (q_mv) ?_
                      refine JD.pass 24 (by kernel_rfl) rfl rfl rfl ss_subB ?_
                      refine JD.pass 25 (by kernel_rfl) rfl rfl rfl ss_subB ?_
                      refine JD.pass 26 (by kernel_rfl) rfl rfl rfl ss_subB ?_
                      refine JD.pass 27 (by kernel_rfl) rfl rfl rfl ss_subB ?_
                      refine JD.pass 28 (by kernel_rfl) rfl rfl rfl ss_subB ?_
                      refine JD.pass 29 (by kernel_rfl) rfl rfl rfl ss_subB ?_
                      first | refine JD.calc 30 (by kernel_rfl) rfl trivial ss_subB (q_pickTv (v := .bool _) rfl rfl rfl) ?_ | refine JD.calc 30 (by kernel_rfl) rfl trivial ss_subB (q_pickT rfl rfl) ?_
                      refine JD.done (by kernel_rfl) ?_ _
                      --
                      exact ⟨true, rfl, ⟨rfl, rfl, rfl, rfl, trivial⟩, ⟨rfl, trivial⟩, ⟨hm, inferInstance⟩, inferInstance⟩
                  ·
                    replace hm := ite_F c357 hm
                    refine J.drawB [] [] ?_
                    first | refine JD.calc 0 (by kernel_rfl) rfl trivial ss_subB (q_mvv (v := .int _ _) rfl) ?_ | refine JD.calc 0 (by kernel_rfl) rfl trivial ss_subB (q_mv) ?_
                    refine JD.calc 1 (by kernel_rfl) rfl trivial ss_subB (q_neq rfl rfl) ?_
                    first | refine JD.calc 2 (by kernel_rfl) rfl trivial ss_subB (q_mvv (v := .bool _) rfl) ?_ | refine JD.calc 2 (by kernel_rfl) rfl trivial ss_subB (q_mv) ?_
                    first | refine JD.calc 3 (by kernel_rfl) rfl ⟨_, rfl, (congrArg Value.bool (decide_eq_false (fun z => z c355)))⟩ ss_subB (q_mvv (v := .int _ _) rfl) ?_ | refine JD.calc 3 (by kernel_rfl) rfl ⟨_, rfl, (congrArg Value.bool (decide_eq_false (fun z => z c355)))⟩ ss_subB (q_mv) ?_
                    refine JD.calc 4 (by kernel_rfl) rfl ⟨_, rfl, (congrArg Value.bool (decide_eq_false (fun z => z c355)))⟩ ss_subB (q_neq rfl rfl) ?_
                    first | refine JD.calc 5 (by kernel_rfl) rfl trivial ss_subB (q_pickFv (v := .bool _) rfl (decide_eq_false (fun z => z c355)) rfl) ?_ | refine JD.calc 5 (by kernel_rfl) rfl trivial ss_subB (q_pickF rfl (decide_eq_false (fun z => z c355))) ?_
                    first | refine JD.calc 6 (by kernel_rfl) rfl trivial ss_subB (q_mvv (v := .bool _) rfl) ?_ | refine JD.calc 6 (by kernel_rfl) rfl trivial ss_subB (q_mv) ?_
                    first | refine JD.calc 7 (by kernel_rfl) rfl ⟨_, rfl, (congrArg Value.bool (decide_eq_false (fun z => z c356)))⟩ ss_subB (q_mvv (v := .int _ _) rfl) ?_ | refine JD.calc 7 (by kernel_rfl) rfl ⟨_, rfl, (congrArg Value.bool (decide_eq_false (fun z => z c356)))⟩ ss_subB (q_mv) ?_
                    refine JD.calc 8 (by kernel_rfl) rfl ⟨_, rfl, (congrArg Value.bool (decide_eq_false (fun z => z c356)))⟩ ss_subB (q_neq rfl rfl) ?_
                    first | refine JD.calc 9 (by kernel_rfl) rfl trivial ss_subB (q_pickFv (v := .bool _) rfl (decide_eq_false (fun z => z c356)) rfl) ?_ | refine JD.calc 9 (by kernel_rfl) rfl trivial ss_subB (q_pickF rfl (decide_eq_false (fun z => z c356))) ?_
                    first | refine JD.calc 10 (by kernel_rfl) rfl trivial ss_subB (q_mvv (v := .bool _) rfl) ?_ | refine JD.calc 10 (by kernel_rfl) rfl trivial ss_subB (q_mv) ?_
                    refine JD.pass 11 (by kernel_rfl) rfl rfl (congrArg Value.bool (decide_eq_true c357)) ss_subB ?_
                    refine JD.pass 12 (by kernel_rfl) rfl rfl (congrArg Value.bool (decide_eq_true c357)) ss_subB ?_
                    refine JD.pass 13 (by kernel_rfl) rfl rfl (congrArg Value.bool (decide_eq_true c357)) ss_subB ?_
                    refine JD.pass 14 (by kernel_rfl) rfl rfl (congrArg Value.bool (decide_eq_true c357)) ss_subB ?_
                    first | refine JD.calc 15 (by kernel_rfl) rfl trivial ss_subB (q_pickTv (v := .bool _) rfl (decide_eq_true c357) rfl) ?_ | refine JD.calc 15 (by kernel_rfl) rfl trivial ss_subB (q_pickT rfl (decide_eq_true c357)) ?_
                    first | refine JD.calc 16 (by kernel_rfl) rfl trivial ss_subB (q_mvv (v := .bool _) rfl) ?_ | refine JD.calc 16 (by kernel_rfl) rfl trivial ss_subB (q_mv) ?_
                    refine JD.pass 17 (by kernel_rfl) rfl rfl rfl ss_subB ?_
                    refine JD.pass 18 (by kernel_rfl) rfl rfl rfl ss_subB ?_
                    refine JD.pass 19 (by kernel_rfl) rfl rfl rfl ss_subB ?_
                    refine JD.pass 20 (by kernel_rfl) rfl rfl rfl ss_subB ?_
                    refine JD.pass 21 (by kernel_rfl) rfl rfl rfl ss_subB ?_
                    first | refine JD.calc 22 (by kernel_rfl) rfl trivial ss_subB (q_pickTv (v := .bool _) rfl rfl rfl) ?_ | refine JD.calc 22 (by kernel_rfl) rfl trivial ss_subB (q_pickT rfl rfl) ?_
                    first | refine JD.calc 23 (by kernel_rfl) rfl trivial ss_subB (q_mvv (v := .bool _) rfl) ?_ | refine JD.calc 23 (by kernel_rfl) rfl trivial ss_subB (q_mv) ?_
                    refine JD.pass 24 (by kernel_rfl) rfl rfl rfl ss_subB ?_
                    refine JD.pass 25 (by kernel_rfl) rfl rfl rfl ss_subB ?_
                    refine JD.pass 26 (by kernel_rfl) rfl rfl rfl ss_subB ?_
                    refine JD.pass 27 (by kernel_rfl) rfl rfl rfl ss_subB ?_
                    refine JD.pass 28 (by kernel_rfl) rfl rfl rfl ss_subB ?_
                    refine JD.pass 29 (by kernel_rfl) rfl rfl rfl ss_subB ?_
                    first | refine JD.calc 30 (by kernel_rfl) rfl trivial ss_subB (q_pickTv (v := .bool _) rfl rfl rfl) ?_ | refine JD.calc 30 (by kernel_rfl) rfl trivial ss_subB (q_pickT rfl rfl) ?_
                    refine JD.done (by kernel_rfl) ?_ _
                    --
                    exact ⟨true, rfl, ⟨rfl, rfl, rfl, rfl, trivial⟩, ⟨rfl, trivial⟩, ⟨hm, inferInstance⟩, inferInstance⟩
                ·
                  replace hm := ite_F c356 hm
                  refine J.drawB [] [] ?_
                  first | refine JD.calc 0 (by kernel_rfl) rfl trivial ss_subB (q_mvv (v := .int _ _) rfl) ?_ | refine JD.calc 0 (by kernel_rfl) rfl trivial ss_subB (q_mv) ?_
                  refine JD.calc 1 (by kernel_rfl) rfl trivial ss_subB (q_neq rfl rfl) ?_
                  first | refine JD.calc 2 (by kernel_rfl) rfl trivial ss_subB (q_mvv (v := .bool _) rfl) ?_ | refine JD.calc 2 (by kernel_rfl) rfl trivial ss_subB (q_mv) ?_
                  first | refine JD.calc 3 (by kernel_rfl) rfl ⟨_, rfl, (congrArg Value.bool (decide_eq_false (fun z => z c355)))⟩ ss_subB (q_mvv (v := .int _ _) rfl) ?_ | refine JD.calc 3 (by kernel_rfl) rfl ⟨_, rfl, (congrArg Value.bool (decide_eq_false (fun z => z c355)))⟩ ss_subB (q_mv) ?_
                  refine JD.calc 4 (by kernel_rfl) rfl ⟨_, rfl, (congrArg Value.bool (decide_eq_false (fun z => z c355)))⟩ ss_subB (q_neq rfl rfl) ?_
                  first | refine JD.calc 5 (by kernel_rfl) rfl trivial ss_subB (q_pickFv (v := .bool _) rfl (decide_eq_false (fun z => z c355)) rfl) ?_ | refine JD.calc 5 (by kernel_rfl) rfl trivial ss_subB (q_pickF rfl (decide_eq_false (fun z => z c355))) ?_
                  first | refine JD.calc 6 (by kernel_rfl) rfl trivial ss_subB (q_mvv (v := .bool _) rfl) ?_ | refine JD.calc 6 (by kernel_rfl) rfl trivial ss_subB (q_mv) ?_
                  refine JD.pass 7 (by kernel_rfl) rfl rfl (congrArg Value.bool (decide_eq_true c356)) ss_subB ?_
                  refine JD.pass 8 (by kernel_rfl) rfl rfl (congrArg Value.bool (decide_eq_true c356)) ss_subB ?_
                  first | refine JD.calc 9 (by kernel_rfl) rfl trivial ss_subB (q_pickTv (v := .bool _) rfl (decide_eq_true c356) rfl) ?_ | refine JD.calc 9 (by kernel_rfl) rfl trivial ss_subB (q_pickT rfl (decide_eq_true c356)) ?_
                  first | refine JD.calc 10 (by kernel_rfl) rfl trivial ss_subB (q_mvv (v := .bool _) rfl) ?_ | refine JD.calc 10 (by kernel_rfl) rfl trivial ss_subB (q_mv) ?_
                  refine JD.pass 11 (by kernel_rfl) rfl rfl rfl ss_subB ?_
                  refine JD.pass 12 (by kernel_rfl) rfl rfl rfl ss_subB ?_
                  refine JD.pass 13 (by kernel_rfl) rfl rfl rfl ss_subB ?_
                  refine JD.pass 14 (by kernel_rfl) rfl rfl rfl ss_subB ?_
                  first | refine JD.calc 15 (by kernel_rfl) rfl trivial ss_subB (q_pickTv (v := .bool _) rfl rfl rfl) ?_ | refine JD.calc 15 (by kernel_rfl) rfl trivial ss_subB (q_pickT rfl rfl) ?_
                  first | refine JD.calc 16 (by kernel_rfl) rfl trivial ss_subB (q_mvv (v := .bool _) rfl) ?_ | refine JD.calc 16 (by kernel_rfl) rfl trivial ss_subB (q_mv) ?_
                  refine JD.pass 17 (by kernel_rfl) rfl rfl rfl ss_subB ?_
                  refine JD.pass 18 (by kernel_rfl) rfl rfl rfl ss_subB ?_
                  refine JD.pass 19 (by kernel_rfl) rfl rfl rfl ss_subB ?_
                  refine JD.pass 20 (by kernel_rfl) rfl rfl rfl ss_subB ?_
                  refine JD.pass 21 (by kernel_rfl) rfl rfl rfl ss_subB ?_
                  first | refine JD.calc 22 (by kernel_rfl) rfl trivial ss_subB (q_pickTv (v := .bool _) rfl rfl rfl) ?_ | refine JD.calc 22 (by kernel_rfl) rfl trivial ss_subB (q_pickT rfl rfl) ?_
                  first | refine JD.calc 23 (by kernel_rfl) rfl trivial ss_subB (q_mvv (v := .bool _) rfl) ?_ | refine JD.calc 23 (by kernel_rfl) rfl trivial ss_subB (q_mv) ?_
                  refine JD.pass 24 (by kernel_rfl) rfl rfl rfl ss_subB ?_
                  refine JD.pass 25 (by kernel_rfl) rfl rfl rfl ss_subB ?_
                  refine JD.pass 26 (by kernel_rfl) rfl rfl rfl ss_subB ?_
                  refine JD.pass 27 (by kernel_rfl) rfl rfl rfl ss_subB ?_
                  refine JD.pass 28 (by kernel_rfl) rfl rfl rfl ss_subB ?_
                  refine JD.pass 29 (by kernel_rfl) rfl rfl rfl ss_subB ?_
                  first | refine JD.calc 30 (by kernel_rfl) rfl trivial ss_subB (q_pickTv (v := .bool _) rfl rfl rfl) ?_ | refine JD.calc 30 (by kernel_rfl) rfl trivial ss_subB (q_pickT rfl rfl) ?_
                  refine JD.done (by kernel_rfl) ?_ _
                  --
                  exact ⟨true, rfl, ⟨rfl, rfl, rfl, rfl, trivial⟩, ⟨rfl, trivial⟩, ⟨hm, inferInstance⟩, inferInstance⟩
              ·
                replace hm := ite_F c355 hm
                refine J.drawB [] [] ?_
                first | refine JD.calc 0 (by kernel_rfl) rfl trivial ss_subB (q_mvv (v := .int _ _) rfl) ?_ | refine JD.calc 0 (by kernel_rfl) rfl trivial ss_subB (q_mv) ?_
                refine JD.calc 1 (by kernel_rfl) rfl trivial ss_subB (q_neq rfl rfl) ?_
                first | refine JD.calc 2 (by kernel_rfl) rfl trivial ss_subB (q_mvv (v := .bool _) rfl) ?_ | refine JD.calc 2 (by kernel_rfl) rfl trivial ss_subB (q_mv) ?_
                refine JD.pass 3 (by kernel_rfl) rfl rfl (congrArg Value.bool (decide_eq_true c355)) ss_subB ?_
                refine JD.pass 4 (by kernel_rfl) rfl rfl (congrArg Value.bool (decide_eq_true c355)) ss_subB ?_
                first | refine JD.calc 5 (by kernel_rfl) rfl trivial ss_subB (q_pickTv (v := .bool _) rfl (decide_eq_true c355) rfl) ?_ | refine JD.calc 5 (by kernel_rfl) rfl trivial ss_subB (q_pickT rfl (decide_eq_true c355)) ?_
                first | refine JD.calc 6 (by kernel_rfl) rfl trivial ss_subB (q_mvv (v := .bool _) rfl) ?_ | refine JD.calc 6 (by kernel_rfl) rfl trivial ss_subB (q_mv) ?_
                refine JD.pass 7 (by kernel_rfl) rfl rfl rfl ss_subB ?_
                refine JD.pass 8 (by kernel_rfl) rfl rfl rfl ss_subB ?_
                first | refine JD.calc 9 (by kernel_rfl) rfl trivial ss_subB (q_pickTv (v := .bool _) rfl rfl rfl) ?_ | refine JD.calc 9 (by kernel_rfl) rfl trivial ss_subB (q_pickT rfl rfl) ?_
                first | refine JD.calc 10 (by kernel_rfl) rfl trivial ss_subB (q_mvv (v := .bool _) rfl) ?_ | refine JD.calc 10 (by kernel_rfl) rfl trivial ss_subB (q_mv) ?_
                refine JD.pass 11 (by kernel_rfl) rfl rfl rfl ss_subB ?_
                refine JD.pass 12 (by kernel_rfl) rfl rfl rfl ss_subB ?_
                refine JD.pass 13 (by kernel_rfl) rfl rfl rfl ss_subB ?_
                refine JD.pass 14 (by kernel_rfl) rfl rfl rfl ss_subB ?_
                first | refine JD.calc 15 (by kernel_rfl) rfl trivial ss_subB (q_pickTv (v := .bool _) rfl rfl rfl) ?_ | refine JD.calc 15 (by kernel_rfl) rfl trivial ss_subB (q_pickT rfl rfl) ?_
                first | refine JD.calc 16 (by kernel_rfl) rfl trivial ss_subB (q_mvv (v := .bool _) rfl) ?_ | refine JD.calc 16 (by kernel_rfl) rfl trivial ss_subB (q_mv) ?_
                refine JD.pass 17 (by kernel_rfl) rfl rfl rfl ss_subB ?_
                refine JD.pass 18 (by kernel_rfl) rfl rfl rfl ss_subB ?_
                refine JD.pass 19 (by kernel_rfl) rfl rfl rfl ss_subB ?_
                refine JD.pass 20 (by kernel_rfl) rfl rfl rfl ss_subB ?_
                refine JD.pass 21 (by kernel_rfl) rfl rfl rfl ss_subB ?_
                first | refine JD.calc 22 (by kernel_rfl) rfl trivial ss_subB (q_pickTv (v := .bool _) rfl rfl rfl) ?_ | refine JD.calc 22 (by kernel_rfl) rfl trivial ss_subB (q_pickT rfl rfl) ?_
                first | refine JD.calc 23 (by kernel_rfl) rfl trivial ss_subB (q_mvv (v := .bool _) rfl) ?_ | refine JD.calc 23 (by kernel_rfl) rfl trivial ss_subB (q_mv) ?_
                refine JD.pass 24 (by kernel_rfl) rfl rfl rfl ss_subB ?_
                refine JD.pass 25 (by kernel_rfl) rfl rfl rfl ss_subB ?_
                refine JD.pass 26 (by kernel_rfl) rfl rfl rfl ss_subB ?_
                refine JD.pass 27 (by kernel_rfl) rfl rfl rfl ss_subB ?_
                refine JD.pass 28 (by kernel_rfl) rfl rfl rfl ss_subB ?_
                refine JD.pass 29 (by kernel_rfl) rfl rfl rfl ss_subB ?_
                first | refine JD.calc 30 (by kernel_rfl) rfl trivial ss_subB (q_pickTv (v := .bool _) rfl rfl rfl) ?_ | refine JD.calc 30 (by kernel_rfl) rfl trivial ss_subB (q_pickT rfl rfl) ?_
                refine JD.done (by kernel_rfl) ?_ _
                --
                exact ⟨true, rfl, ⟨rfl, rfl, rfl, rfl, trivial⟩, ⟨rfl, trivial⟩, ⟨hm, inferInstance⟩, inferInstance⟩
            ·
              rintro v223 σq224 hq224 Lq224 sq224 ⟨hm, hspq224⟩
              refine J.sp hspq224 ?_
              unfold M.torsionlaw06_SparseMultiplies_j2 at hm
              by_cases c275 : v223 = true
              ·
                replace hm := ite_T c275 hm
                refine J.condT rfl c275 ?_
                refine J.seq ?_
                refine J.region ?_
                first | refine o_q (q_asv (v := .bool _) rfl) ?_ | refine o_q (q_as) ?_
                refine JL.nil ?_
                refine J.ret ?_
                obtain rfl := Option.some.inj hm
                exact ret_ok (fn := Try.f6) rfl (.tmp rfl .nil) rfl
              ·
                replace hm := ite_F c275 hm
                refine J.condF rfl (eq_false_of_ne_true c275) ?_
                refine J.skip ?_
                refine J.seq ?_
                refine J.seq ?_
                refine J.region ?_
                first | refine o_q (q_asv (v := .int _ _) rfl) ?_ | refine o_q (q_as) ?_
                refine JL.nil ?_
                refine J.block ?_
                obtain ⟨k278, hm⟩ := rngN_some hm
                refine J.loopK (α := Int) (fun i277 h' L' => 0 ≤ i277 ∧ forN (M.torsionlaw06_SparseMultiplies_b1 y57 y79 y112) (M.torsionlaw06_SparseMultiplies_k1 y41) y57.Rows i277 () = some r ∧ Sp ([(b62, row 24 [.int .i64 y57.Rows, .int .i64 y57.Cols, .slice p58 n59 c60]), (b84, row 24 [.int .i64 y79.Rows, .int .i64 y79.Cols, .slice p80 n81 c82]), (b121, row 24 [.int .i64 y112.1.Rows, .int .i64 y112.1.Cols, .slice p117 n118 c119])]) L') [(7, .bool _), (8, .pointer _), (9, .pointer _), (11, .pointer _)] ⟨rfl, rfl, rfl, rfl, trivial⟩ (fun i277 => [(21, .int .i64 i277)]) (fun i277 => (y57.Rows - i277).toNat) 0 ⟨Int.le_refl _, hm, inferInstance⟩ ⟨rfl, trivial⟩ ?_
                rintro i277 σq279 hq279 Lq279 sq279 ⟨hle280, hm, hspq279⟩
                refine J.sp hspq279 ?_
                refine J.seq ?_
                refine J.seq ?_
                refine J.region ?_
                first | refine o_q (q_mvv (v := .int _ _) rfl) ?_ | refine o_q (q_mv) ?_
                refine o_q (q_fa rfl) ?_
                refine o_q (q_ld rfl inferInstance rfl) ?_
                refine o_q (q_lss rfl rfl) ?_
                refine JL.nil ?_
                by_cases c283 : i277 < y57.Rows
                ·
                  obtain ⟨o281, hm, hk282⟩ := forN_lt c283 hm
                  unfold M.torsionlaw06_SparseMultiplies_b1 at hm
                  refine J.condT rfl (decide_eq_true c283) ?_
                  have k284 : -9223372036854775808 ≤ i277 + 1 ∧ i277 + 1 ≤ 9223372036854775807 := by omega
                  refine J.skip ?_
                  refine J.seq ?_
                  refine J.block ?_
                  refine J.seq ?_
                  obtain ⟨i286, x285, hi287, hl288, hx289, hm⟩ := nth_some hm
                  obtain ⟨b290, o291, rfl⟩ := Sls.op f61 hl288
                  obtain ⟨us292, hc293, hR294⟩ := Sls.at f61 hx289
                  obtain ⟨p295, n296, c297, rfl, f298⟩ := hR294
                  obtain ⟨y304, e303, hm⟩ := bnd_some hm
                  obtain ⟨y314, e313, hm⟩ := bnd_some hm
                  refine J.drawB [b62, b84] [] ?_
                  refine JD.calc 0 (by kernel_rfl) rfl trivial ss_subB (q_fa rfl) ?_
                  refine JD.loadB 1 (by kernel_rfl) rfl trivial (q_ld rfl inferInstance rfl) ?_
                  first | refine JD.calc 2 (by kernel_rfl) rfl trivial ss_subB (q_mvv (v := .int _ _) rfl) ?_ | refine JD.calc 2 (by kernel_rfl) rfl trivial ss_subB (q_mv) ?_
                  refine JD.calc 3 (by kernel_rfl) rfl trivial ss_subB (q_ian rfl rfl hi287 (by first | exact hl288 | (rw [Sls.len f61]; exact hl288))) ?_
                  refine JD.loadB 4 (by kernel_rfl) rfl trivial (q_ldf rfl hc293) ?_
                  refine JD.calc 5 (by kernel_rfl) rfl trivial ss_subB (q_fa rfl) ?_
                  refine JD.loadB 6 (by kernel_rfl) rfl trivial (q_ld rfl inferInstance rfl) ?_
                  refine JD.loadB 8 (by kernel_rfl) rfl trivial (q_lda (vs := [_, _, _]) rfl inferInstance ⟨rfl, rfl, rfl, trivial⟩) ?_
                  refine JD.one 7 (by kernel_rfl) ?_
                  refine JX.effB rfl rfl trivial ?_
                  refine o_call (torsionref06_Full_fn (Sls.mono f298) e303) (fun v299 h300 s301 r302 => ?_)
                  obtain ⟨p305, n306, c307, rfl, f308⟩ := Sls.op3 r302
                  refine JL.nil ⟨rfl, inferInstance, inferInstance, ?_⟩
                  refine JD.one 9 (by kernel_rfl) ?_
                  refine JX.effB rfl rfl trivial ?_
                  refine o_call (sparse_Times_fn (Sls.mono f308) ⟨_, rfl, ⟨_, _, _, rfl, Sls.mono f83⟩⟩ e313) (fun v309 h310 s311 r312 => ?_)
                  obtain ⟨v315, v316, rfl, r317, r318⟩ := r312
                  obtain ⟨p319, n320, c321, rfl, f322⟩ := Sls.op3 r317
                  obtain rfl := (show _ = _ from r318)
                  refine JL.nil ⟨rfl, inferInstance, inferInstance, ?_⟩
                  refine JD.calc 10 (by kernel_rfl) rfl trivial ss_subB (q_mv) ?_
                  refine JD.calc 11 (by kernel_rfl) rfl trivial ss_subB (q_ex rfl rfl) ?_
                  refine JD.calc 12 (by kernel_rfl) rfl trivial ss_subB (q_ex rfl rfl) ?_
                  first | refine JD.calc 13 (by kernel_rfl) rfl trivial ss_subB (q_asv (v := .slice _ _ _) rfl) ?_ | refine JD.calc 13 (by kernel_rfl) rfl trivial ss_subB (q_as) ?_
                  first | refine JD.calc 14 (by kernel_rfl) rfl trivial ss_subB (q_asv (v := .int _ _) rfl) ?_ | refine JD.calc 14 (by kernel_rfl) rfl trivial ss_subB (q_as) ?_
                  refine JD.done (by kernel_rfl) ?_ _
                  --
                  refine J.seq ?_
                  by_cases c323 : y314.2 = 0
                  ·
                    replace hm := ite_T c323 hm
                    obtain ⟨y329, e328, hm⟩ := bnd_some hm
                    obtain ⟨i335, x334, hi336, hl337, hx338, hm⟩ := nth_some hm
                    obtain ⟨b339, o340, rfl⟩ := Sls.op f120 hl337
                    obtain ⟨us341, hc342, hR343⟩ := Sls.at f120 hx338
                    obtain ⟨p344, n345, c346, rfl, f347⟩ := hR343
                    obtain ⟨y353, e352, hm⟩ := bnd_some hm
                    refine J.drawB [b121] [] ?_
                    first | refine JD.calc 0 (by kernel_rfl) rfl trivial ss_subB (q_mvv (v := .int _ _) rfl) ?_ | refine JD.calc 0 (by kernel_rfl) rfl trivial ss_subB (q_mv) ?_
                    refine JD.calc 1 (by kernel_rfl) rfl trivial ss_subB (q_neq rfl rfl) ?_
                    first | refine JD.calc 2 (by kernel_rfl) rfl trivial ss_subB (q_mvv (v := .bool _) rfl) ?_ | refine JD.calc 2 (by kernel_rfl) rfl trivial ss_subB (q_mv) ?_
                    first | refine JD.calc 3 (by kernel_rfl) rfl ⟨_, rfl, (congrArg Value.bool (decide_eq_false (fun z => z c323)))⟩ ss_subB (q_mvv (v := .slice _ _ _) rfl) ?_ | refine JD.calc 3 (by kernel_rfl) rfl ⟨_, rfl, (congrArg Value.bool (decide_eq_false (fun z => z c323)))⟩ ss_subB (q_mv) ?_
                    refine JD.calc 5 (by kernel_rfl) rfl ⟨_, rfl, (congrArg Value.bool (decide_eq_false (fun z => z c323)))⟩ ss_subB (q_fa rfl) ?_
                    refine JD.loadB 6 (by kernel_rfl) rfl ⟨_, rfl, (congrArg Value.bool (decide_eq_false (fun z => z c323)))⟩ (q_ld rfl inferInstance rfl) ?_
                    first | refine JD.calc 7 (by kernel_rfl) rfl ⟨_, rfl, (congrArg Value.bool (decide_eq_false (fun z => z c323)))⟩ ss_subB (q_mvv (v := .int _ _) rfl) ?_ | refine JD.calc 7 (by kernel_rfl) rfl ⟨_, rfl, (congrArg Value.bool (decide_eq_false (fun z => z c323)))⟩ ss_subB (q_mv) ?_
                    refine JD.calc 8 (by kernel_rfl) rfl ⟨_, rfl, (congrArg Value.bool (decide_eq_false (fun z => z c323)))⟩ ss_subB (q_ian rfl rfl hi336 (by first | exact hl337 | (rw [Sls.len f120]; exact hl337))) ?_
                    refine JD.loadB 9 (by kernel_rfl) rfl ⟨_, rfl, (congrArg Value.bool (decide_eq_false (fun z => z c323)))⟩ (q_ldf rfl hc342) ?_
                    refine JD.one 4 (by kernel_rfl) ?_
                    refine JX.effB rfl rfl ⟨_, rfl, (congrArg Value.bool (decide_eq_false (fun z => z c323)))⟩ ?_
                    refine o_call (torsionref06_Row_fn (Sls.mono f322) e328) (fun v324 h325 s326 r327 => ?_)
                    obtain ⟨p330, n331, c332, rfl, f333⟩ := Sls.op3 r327
                    refine JL.nil ⟨rfl, inferInstance, inferInstance, ?_⟩
                    refine JD.one 10 (by kernel_rfl) ?_
                    refine JX.effB rfl rfl ⟨_, rfl, (congrArg Value.bool (decide_eq_false (fun z => z c323)))⟩ ?_
                    refine o_call (torsionref06_SameRow_fn (Sls.mono f333) (Sls.mono f347) e352) (fun v348 h349 s350 r351 => ?_)
                    obtain rfl := (show _ = _ from r351)
                    refine JL.nil ⟨rfl, inferInstance, inferInstance, ?_⟩
                    refine JD.calc 11 (by kernel_rfl) rfl ⟨_, rfl, (congrArg Value.bool (decide_eq_false (fun z => z c323)))⟩ ss_subB (q_not rfl) ?_
                    first | refine JD.calc 12 (by kernel_rfl) rfl trivial ss_subB (q_pickFv (v := .bool _) rfl (decide_eq_false (fun z => z c323)) rfl) ?_ | refine JD.calc 12 (by kernel_rfl) rfl trivial ss_subB (q_pickF rfl (decide_eq_false (fun z => z c323))) ?_
                    refine JD.done (by kernel_rfl) ?_ _
                    --
                    by_cases c354 : y353 = true
                    ·
                      replace hm := ite_T c354 hm
                      refine J.condF rfl (congrArg Bool.not (show y353 = true from c354)) ?_
                      refine J.skip ?_
                      refine J.region ?_
                      first | refine o_q (q_mvv (v := .int _ _) rfl) ?_ | refine o_q (q_mv) ?_
                      refine o_q (q_add rfl rfl (wi64 k284)) ?_
                      first | refine o_q (q_asv (v := .int _ _) rfl) ?_ | refine o_q (q_as) ?_
                      refine JL.nil ?_
                      replace hm := inl_onward hm hk282
                      exact ⟨(i277 + 1), rfl, ⟨rfl, rfl, rfl, rfl, trivial⟩, ⟨rfl, trivial⟩, ⟨Int.le_trans hle280 (Int.le_of_lt (Int.lt_succ _)), hm, inferInstance⟩, (muN c283), inferInstance⟩
                    ·
                      replace hm := ite_F c354 hm
                      refine J.condT rfl (congrArg Bool.not (show y353 = false from (eq_false_of_ne_true c354))) ?_
                      refine J.seq ?_
                      refine J.region ?_
                      first | refine o_q (q_asv (v := .bool _) rfl) ?_ | refine o_q (q_as) ?_
                      refine JL.nil ?_
                      replace hm := inr_onward hm hk282
                      refine J.ret ?_
                      obtain rfl := Option.some.inj hm
                      exact ret_ok (fn := Try.f6) rfl (.tmp rfl .nil) rfl
                  ·
                    replace hm := ite_F c323 hm
                    refine J.drawB [] [] ?_
                    first | refine JD.calc 0 (by kernel_rfl) rfl trivial ss_subB (q_mvv (v := .int _ _) rfl) ?_ | refine JD.calc 0 (by kernel_rfl) rfl trivial ss_subB (q_mv) ?_
                    refine JD.calc 1 (by kernel_rfl) rfl trivial ss_subB (q_neq rfl rfl) ?_
                    first | refine JD.calc 2 (by kernel_rfl) rfl trivial ss_subB (q_mvv (v := .bool _) rfl) ?_ | refine JD.calc 2 (by kernel_rfl) rfl trivial ss_subB (q_mv) ?_
                    refine JD.pass 3 (by kernel_rfl) rfl rfl (congrArg Value.bool (decide_eq_true c323)) ss_subB ?_
                    refine JD.pass 4 (by kernel_rfl) rfl rfl (congrArg Value.bool (decide_eq_true c323)) ss_subB ?_
                    refine JD.pass 5 (by kernel_rfl) rfl rfl (congrArg Value.bool (decide_eq_true c323)) ss_subB ?_
                    refine JD.pass 6 (by kernel_rfl) rfl rfl (congrArg Value.bool (decide_eq_true c323)) ss_subB ?_
                    refine JD.pass 7 (by kernel_rfl) rfl rfl (congrArg Value.bool (decide_eq_true c323)) ss_subB ?_
                    refine JD.pass 8 (by kernel_rfl) rfl rfl (congrArg Value.bool (decide_eq_true c323)) ss_subB ?_
                    refine JD.pass 9 (by kernel_rfl) rfl rfl (congrArg Value.bool (decide_eq_true c323)) ss_subB ?_
                    refine JD.pass 10 (by kernel_rfl) rfl rfl (congrArg Value.bool (decide_eq_true c323)) ss_subB ?_
                    refine JD.pass 11 (by kernel_rfl) rfl rfl (congrArg Value.bool (decide_eq_true c323)) ss_subB ?_
                    first | refine JD.calc 12 (by kernel_rfl) rfl trivial ss_subB (q_pickTv (v := .bool _) rfl (decide_eq_true c323) rfl) ?_ | refine JD.calc 12 (by kernel_rfl) rfl trivial ss_subB (q_pickT rfl (decide_eq_true c323)) ?_
                    refine JD.done (by kernel_rfl) ?_ _
                    --
                    refine J.condT rfl rfl ?_
                    refine J.seq ?_
                    refine J.region ?_
                    first | refine o_q (q_asv (v := .bool _) rfl) ?_ | refine o_q (q_as) ?_
                    refine JL.nil ?_
                    replace hm := inr_onward hm hk282
                    refine J.ret ?_
                    obtain rfl := Option.some.inj hm
                    exact ret_ok (fn := Try.f6) rfl (.tmp rfl .nil) rfl
                ·
                  replace hm := forN_ge c283 hm
                  unfold M.torsionlaw06_SparseMultiplies_k1 at hm
                  refine J.condF rfl (decide_eq_false c283) ?_
                  refine J.exit ?_
                  refine J.seq ?_
                  refine J.region ?_
                  first | refine o_q (q_mvv (v := .bool _) rfl) ?_ | refine o_q (q_mv) ?_
                  first | refine o_q (q_asv (v := .bool _) rfl) ?_ | refine o_q (q_as) ?_
                  refine JL.nil ?_
                  refine J.ret ?_
                  obtain rfl := Option.some.inj hm
                  exact ret_ok (fn := Try.f6) rfl (.tmp rfl .nil) rfl
        ·
          refine JX.effB rfl rfl trivial ?_
          refine o_al (fun b221 => ?_)
          refine JL.nil ⟨rfl, inferInstance, inferInstance, ?_⟩
          refine JD.one 3 (by kernel_rfl) ?_
          refine JX.effB rfl rfl trivial ?_
          refine o_call (sparse_Transpose_fn ⟨_, rfl, ⟨_, _, _, rfl, Sls.mono f61⟩⟩ e201) (fun v197 h198 s199 r200 => ?_)
          obtain ⟨_, rfl, p203, n204, c205, rfl, f206⟩ := r200
          refine JL.nil ⟨rfl, inferInstance, inferInstance, ?_⟩
          refine JD.one 4 (by kernel_rfl) ?_
          refine JX.effB rfl rfl trivial ?_
          refine o_call (sparse_Mul_fn ⟨_, rfl, ⟨_, _, _, rfl, Sls.mono f196⟩⟩ ⟨_, rfl, ⟨_, _, _, rfl, Sls.mono f206⟩⟩ e211) (fun v207 h208 s209 r210 => ?_)
          obtain ⟨v213, v214, rfl, r215, r216⟩ := r210
          obtain ⟨_, rfl, p217, n218, c219, rfl, f220⟩ := r215
          obtain rfl := (show _ = _ from r216)
          refine JL.nil ⟨rfl, inferInstance, inferInstance, ?_⟩
          refine JD.calc 5 (by kernel_rfl) rfl trivial ss_subB (q_mv) ?_
          refine JD.calc 6 (by kernel_rfl) rfl trivial ss_subB (q_ex rfl rfl) ?_
          refine JD.calc 7 (by kernel_rfl) rfl trivial ss_subB (q_ex rfl rfl) ?_
          refine JD.one 9 (by kernel_rfl) ?_
          refine JX.effB rfl rfl trivial ?_
          first | refine o_stc (vs := [.int _ _, .int _ _, .slice _ _ _]) (l' := [.int _ _, .int _ _, .slice _ _ _]) rfl rfl rfl rfl rfl inferInstance rfl rfl ?_ | refine o_stc (vs := [_, _, _]) (l' := [_, _, _]) rfl rfl rfl rfl rfl inferInstance rfl rfl ?_
          refine JL.nil ⟨rfl, inferInstance, inferInstance, ?_⟩
          first | refine JD.calc 10 (by kernel_rfl) rfl trivial ss_subB (q_asv (v := .int _ _) rfl) ?_ | refine JD.calc 10 (by kernel_rfl) rfl trivial ss_subB (q_as) ?_
          refine JD.done (by kernel_rfl) ?_ _
          --
          refine J.seq ?_
          refine J.seq ?_
          refine J.joinK (α := Bool) (fun v223 h' L' => (M.torsionlaw06_SparseMultiplies_j2 y41 y57 y79 y112) v223 = some r ∧ Sp ([(b62, row 24 [.int .i64 y57.Rows, .int .i64 y57.Cols, .slice p58 n59 c60]), (b84, row 24 [.int .i64 y79.Rows, .int .i64 y79.Cols, .slice p80 n81 c82]), (b121, row 24 [.int .i64 y112.1.Rows, .int .i64 y112.1.Cols, .slice p117 n118 c119])]) L') [(7, .bool _), (8, .pointer _), (9, .pointer _), (11, .pointer _)] ⟨rfl, rfl, rfl, rfl, trivial⟩ (fun v223 => [(152, .bool v223)]) ?_ ?_
          ·
            by_cases c355 : y162.2 = 0
            ·
              replace hm := ite_T c355 hm
              by_cases c356 : y177.2 = 0
              ·
                replace hm := ite_T c356 hm
                by_cases c357 : y212.2 = 0
                ·
                  replace hm := ite_T c357 hm
                  obtain ⟨y363, e362, hm⟩ := bnd_some hm
                  by_cases c364 : y363 = true
                  ·
                    replace hm := ite_T c364 hm
                    obtain ⟨y370, e369, hm⟩ := bnd_some hm
                    obtain ⟨y380, e379, hm⟩ := bnd_some hm
                    by_cases c381 : y380 = true
                    ·
                      replace hm := ite_T c381 hm
                      obtain ⟨y387, e386, hm⟩ := bnd_some hm
                      obtain ⟨y397, e396, hm⟩ := bnd_some hm
                      obtain ⟨y407, e406, hm⟩ := bnd_some hm
                      refine J.drawB [b171, b186, b221, b121, b62] [] ?_
                      first | refine JD.calc 0 (by kernel_rfl) rfl trivial ss_subB (q_mvv (v := .int _ _) rfl) ?_ | refine JD.calc 0 (by kernel_rfl) rfl trivial ss_subB (q_mv) ?_
                      refine JD.calc 1 (by kernel_rfl) rfl trivial ss_subB (q_neq rfl rfl) ?_
                      first | refine JD.calc 2 (by kernel_rfl) rfl trivial ss_subB (q_mvv (v := .bool _) rfl) ?_ | refine JD.calc 2 (by kernel_rfl) rfl trivial ss_subB (q_mv) ?_
                      first | refine JD.calc 3 (by kernel_rfl) rfl ⟨_, rfl, (congrArg Value.bool (decide_eq_false (fun z => z c355)))⟩ ss_subB (q_mvv (v := .int _ _) rfl) ?_ | refine JD.calc 3 (by kernel_rfl) rfl ⟨_, rfl, (congrArg Value.bool (decide_eq_false (fun z => z c355)))⟩ ss_subB (q_mv) ?_
                      refine JD.calc 4 (by kernel_rfl) rfl ⟨_, rfl, (congrArg Value.bool (decide_eq_false (fun z => z c355)))⟩ ss_subB (q_neq rfl rfl) ?_
                      first | refine JD.calc 5 (by kernel_rfl) rfl trivial ss_subB (q_pickFv (v := .bool _) rfl (decide_eq_false (fun z => z c355)) rfl) ?_ | refine JD.calc 5 (by kernel_rfl) rfl trivial ss_subB (q_pickF rfl (decide_eq_false (fun z => z c355))) ?_
                      first | refine JD.calc 6 (by kernel_rfl) rfl trivial ss_subB (q_mvv (v := .bool _) rfl) ?_ | refine JD.calc 6 (by kernel_rfl) rfl trivial ss_subB (q_mv) ?_
                      first | refine JD.calc 7 (by kernel_rfl) rfl ⟨_, rfl, (congrArg Value.bool (decide_eq_false (fun z => z c356)))⟩ ss_subB (q_mvv (v := .int _ _) rfl) ?_ | refine JD.calc 7 (by kernel_rfl) rfl ⟨_, rfl, (congrArg Value.bool (decide_eq_false (fun z => z c356)))⟩ ss_subB (q_mv) ?_
                      refine JD.calc 8 (by kernel_rfl) rfl ⟨_, rfl, (congrArg Value.bool (decide_eq_false (fun z => z c356)))⟩ ss_subB (q_neq rfl rfl) ?_
                      first | refine JD.calc 9 (by kernel_rfl) rfl trivial ss_subB (q_pickFv (v := .bool _) rfl (decide_eq_false (fun z => z c356)) rfl) ?_ | refine JD.calc 9 (by kernel_rfl) rfl trivial ss_subB (q_pickF rfl (decide_eq_false (fun z => z c356))) ?_
                      first | refine JD.calc 10 (by kernel_rfl) rfl trivial ss_subB (q_mvv (v := .bool _) rfl) ?_ | refine JD.calc 10 (by kernel_rfl) rfl trivial ss_subB (q_mv) ?_
                      refine JD.loadB 11 (by kernel_rfl) rfl ⟨_, rfl, (congrArg Value.bool (decide_eq_false (fun z => z c357)))⟩ (q_lda (vs := [_, _, _]) rfl inferInstance ⟨rfl, rfl, rfl, trivial⟩) ?_
                      refine JD.loadB 12 (by kernel_rfl) rfl ⟨_, rfl, (congrArg Value.bool (decide_eq_false (fun z => z c357)))⟩ (q_lda (vs := [_, _, _]) rfl inferInstance ⟨rfl, rfl, rfl, trivial⟩) ?_
                      refine JD.one 13 (by kernel_rfl) ?_
                      refine JX.effB rfl rfl ⟨_, rfl, (congrArg Value.bool (decide_eq_false (fun z => z c357)))⟩ ?_
                      refine o_call (torsionref06_Equal_fn ⟨_, rfl, ⟨_, _, _, rfl, Sls.mono f170⟩⟩ ⟨_, rfl, ⟨_, _, _, rfl, Sls.mono f185⟩⟩ e362) (fun v358 h359 s360 r361 => ?_)
                      obtain rfl := (show _ = _ from r361)
                      refine JL.nil ⟨rfl, inferInstance, inferInstance, ?_⟩
                      refine JD.calc 14 (by kernel_rfl) rfl ⟨_, rfl, (congrArg Value.bool (decide_eq_false (fun z => z c357)))⟩ ss_subB (q_not rfl) ?_
                      first | refine JD.calc 15 (by kernel_rfl) rfl trivial ss_subB (q_pickFv (v := .bool _) rfl (decide_eq_false (fun z => z c357)) rfl) ?_ | refine JD.calc 15 (by kernel_rfl) rfl trivial ss_subB (q_pickF rfl (decide_eq_false (fun z => z c357))) ?_
                      first | refine JD.calc 16 (by kernel_rfl) rfl trivial ss_subB (q_mvv (v := .bool _) rfl) ?_ | refine JD.calc 16 (by kernel_rfl) rfl trivial ss_subB (q_mv) ?_
                      refine JD.loadB 17 (by kernel_rfl) rfl ⟨_, rfl, (congrArg Value.bool (congrArg Bool.not (show y363 = true from c364)))⟩ (q_lda (vs := [_, _, _]) rfl inferInstance ⟨rfl, rfl, rfl, trivial⟩) ?_
                      refine JD.loadB 18 (by kernel_rfl) rfl ⟨_, rfl, (congrArg Value.bool (congrArg Bool.not (show y363 = true from c364)))⟩ (q_lda (vs := [_, _, _]) rfl inferInstance ⟨rfl, rfl, rfl, trivial⟩) ?_
                      refine JD.one 19 (by kernel_rfl) ?_
                      refine JX.effB rfl rfl ⟨_, rfl, (congrArg Value.bool (congrArg Bool.not (show y363 = true from c364)))⟩ ?_
                      refine o_call (sparse_Transpose_fn ⟨_, rfl, ⟨_, _, _, rfl, Sls.mono f120⟩⟩ e369) (fun v365 h366 s367 r368 => ?_)
                      obtain ⟨_, rfl, p371, n372, c373, rfl, f374⟩ := r368
                      refine JL.nil ⟨rfl, inferInstance, inferInstance, ?_⟩
                      refine JD.one 20 (by kernel_rfl) ?_
                      refine JX.effB rfl rfl ⟨_, rfl, (congrArg Value.bool (congrArg Bool.not (show y363 = true from c364)))⟩ ?_
                      refine o_call (torsionref06_Equal_fn ⟨_, rfl, ⟨_, _, _, rfl, Sls.mono f220⟩⟩ ⟨_, rfl, ⟨_, _, _, rfl, Sls.mono f374⟩⟩ e379) (fun v375 h376 s377 r378 => ?_)
                      obtain rfl := (show _ = _ from r378)
                      refine JL.nil ⟨rfl, inferInstance, inferInstance, ?_⟩
                      refine JD.calc 21 (by kernel_rfl) rfl ⟨_, rfl, (congrArg Value.bool (congrArg Bool.not (show y363 = true from c364)))⟩ ss_subB (q_not rfl) ?_
                      first | refine JD.calc 22 (by kernel_rfl) rfl trivial ss_subB (q_pickFv (v := .bool _) rfl (congrArg Bool.not (show y363 = true from c364)) rfl) ?_ | refine JD.calc 22 (by kernel_rfl) rfl trivial ss_subB (q_pickF rfl (congrArg Bool.not (show y363 = true from c364))) ?_
                      first | refine JD.calc 23 (by kernel_rfl) rfl trivial ss_subB (q_mvv (v := .bool _) rfl) ?_ | refine JD.calc 23 (by kernel_rfl) rfl trivial ss_subB (q_mv) ?_
                      refine JD.loadB 24 (by kernel_rfl) rfl ⟨_, rfl, (congrArg Value.bool (congrArg Bool.not (show y380 = true from c381)))⟩ (q_lda (vs := [_, _, _]) rfl inferInstance ⟨rfl, rfl, rfl, trivial⟩) ?_
                      refine JD.loadB 27 (by kernel_rfl) rfl ⟨_, rfl, (congrArg Value.bool (congrArg Bool.not (show y380 = true from c381)))⟩ (q_lda (vs := [_, _, _]) rfl inferInstance ⟨rfl, rfl, rfl, trivial⟩) ?_
                      refine JD.one 25 (by kernel_rfl) ?_
                      refine JX.effB rfl rfl ⟨_, rfl, (congrArg Value.bool (congrArg Bool.not (show y380 = true from c381)))⟩ ?_
                      refine o_call (sparse_Transpose_fn ⟨_, rfl, ⟨_, _, _, rfl, Sls.mono f61⟩⟩ e386) (fun v382 h383 s384 r385 => ?_)
                      obtain ⟨_, rfl, p388, n389, c390, rfl, f391⟩ := r385
                      refine JL.nil ⟨rfl, inferInstance, inferInstance, ?_⟩
                      refine JD.one 26 (by kernel_rfl) ?_
                      refine JX.effB rfl rfl ⟨_, rfl, (congrArg Value.bool (congrArg Bool.not (show y380 = true from c381)))⟩ ?_
                      refine o_call (sparse_Transpose_fn ⟨_, rfl, ⟨_, _, _, rfl, Sls.mono f391⟩⟩ e396) (fun v392 h393 s394 r395 => ?_)
                      obtain ⟨_, rfl, p398, n399, c400, rfl, f401⟩ := r395
                      refine JL.nil ⟨rfl, inferInstance, inferInstance, ?_⟩
                      refine JD.one 28 (by kernel_rfl) ?_
                      refine JX.effB rfl rfl ⟨_, rfl, (congrArg Value.bool (congrArg Bool.not (show y380 = true from c381)))⟩ ?_
                      refine o_call (torsionref06_Equal_fn ⟨_, rfl, ⟨_, _, _, rfl, Sls.mono f401⟩⟩ ⟨_, rfl, ⟨_, _, _, rfl, Sls.mono f61⟩⟩ e406) (fun v402 h403 s404 r405 => ?_)
                      obtain rfl := (show _ = _ from r405)
                      refine JL.nil ⟨rfl, inferInstance, inferInstance, ?_⟩
                      refine JD.calc 29 (by kernel_rfl) rfl ⟨_, rfl, (congrArg Value.bool (congrArg Bool.not (show y380 = true from c381)))⟩ ss_subB (q_not rfl) ?_
                      first | refine JD.calc 30 (by kernel_rfl) rfl trivial ss_subB (q_pickFv (v := .bool _) rfl (congrArg Bool.not (show y380 = true from c381)) rfl) ?_ | refine JD.calc 30 (by kernel_rfl) rfl trivial ss_subB (q_pickF rfl (congrArg Bool.not (show y380 = true from c381))) ?_
                      refine JD.done (by kernel_rfl) ?_ _
                      --
                      exact ⟨(!y407), rfl, ⟨rfl, rfl, rfl, rfl, trivial⟩, ⟨rfl, trivial⟩, ⟨hm, inferInstance⟩, inferInstance⟩
                    ·
                      replace hm := ite_F c381 hm
                      refine J.drawB [b171, b186, b221, b121] [] ?_
                      first | refine JD.calc 0 (by kernel_rfl) rfl trivial ss_subB (q_mvv (v := .int _ _) rfl) ?_ | refine JD.calc 0 (by kernel_rfl) rfl trivial ss_subB (q_mv) ?_
                      refine JD.calc 1 (by kernel_rfl) rfl trivial ss_subB (q_neq rfl rfl) ?_
                      first | refine JD.calc 2 (by kernel_rfl) rfl trivial ss_subB (q_mvv (v := .bool _) rfl) ?_ | refine JD.calc 2 (by kernel_rfl) rfl trivial ss_subB (q_mv) ?_
                      first | refine JD.calc 3 (by kernel_rfl) rfl ⟨_, rfl, (congrArg Value.bool (decide_eq_false (fun z => z c355)))⟩ ss_subB (q_mvv (v := .int _ _) rfl) ?_ | refine JD.calc 3 (by kernel_rfl) rfl ⟨_, rfl, (congrArg Value.bool (decide_eq_false (fun z => z c355)))⟩ ss_subB (q_mv) ?_
                      refine JD.calc 4 (by kernel_rfl) rfl ⟨_, rfl, (congrArg Value.bool (decide_eq_false (fun z => z c355)))⟩ ss_subB (q_neq rfl rfl) ?_
                      first | refine JD.calc 5 (by kernel_rfl) rfl trivial ss_subB (q_pickFv (v := .bool _) rfl (decide_eq_false (fun z => z c355)) rfl) ?_ | refine JD.calc 5 (by kernel_rfl) rfl trivial ss_subB (q_pickF rfl (decide_eq_false (fun z => z c355))) ?_
                      first | refine JD.calc 6 (by kernel_rfl) rfl trivial ss_subB (q_mvv (v := .bool _) rfl) ?_ | refine JD.calc 6 (by kernel_rfl) rfl trivial ss_subB (q_mv) ?_
                      first | refine JD.calc 7 (by kernel_rfl) rfl ⟨_, rfl, (congrArg Value.bool (decide_eq_false (fun z => z c356)))⟩ ss_subB (q_mvv (v := .int _ _) rfl) ?_ | refine JD.calc 7 (by kernel_rfl) rfl ⟨_, rfl, (congrArg Value.bool (decide_eq_false (fun z => z c356)))⟩ ss_subB (q_mv) ?_
                      refine JD.calc 8 (by kernel_rfl) rfl ⟨_, rfl, (congrArg Value.bool (decide_eq_false (fun z => z c356)))⟩ ss_subB (q_neq rfl rfl) ?_
                      first | refine JD.calc 9 (by kernel_rfl) rfl trivial ss_subB (q_pickFv (v := .bool _) rfl (decide_eq_false (fun z => z c356)) rfl) ?_ | refine JD.calc 9 (by kernel_rfl) rfl trivial ss_subB (q_pickF rfl (decide_eq_false (fun z => z c356))) ?_
                      first | refine JD.calc 10 (by kernel_rfl) rfl trivial ss_subB (q_mvv (v := .bool _) rfl) ?_ | refine JD.calc 10 (by kernel_rfl) rfl trivial ss_subB (q_mv) ?_
                      refine JD.loadB 11 (by kernel_rfl) rfl ⟨_, rfl, (congrArg Value.bool (decide_eq_false (fun z => z c357)))⟩ (q_lda (vs := [_, _, _]) rfl inferInstance ⟨rfl, rfl, rfl, trivial⟩) ?_
                      refine JD.loadB 12 (by kernel_rfl) rfl ⟨_, rfl, (congrArg Value.bool (decide_eq_false (fun z => z c357)))⟩ (q_lda (vs := [_, _, _]) rfl inferInstance ⟨rfl, rfl, rfl, trivial⟩) ?_
                      refine JD.one 13 (by kernel_rfl) ?_
                      refine JX.effB rfl rfl ⟨_, rfl, (congrArg Value.bool (decide_eq_false (fun z => z c357)))⟩ ?_
                      refine o_call (torsionref06_Equal_fn ⟨_, rfl, ⟨_, _, _, rfl, Sls.mono f170⟩⟩ ⟨_, rfl, ⟨_, _, _, rfl, Sls.mono f185⟩⟩ e362) (fun v358 h359 s360 r361 => ?_)
                      obtain rfl := (show _ = _ from r361)
                      refine JL.nil ⟨rfl, inferInstance, inferInstance, ?_⟩
                      refine JD.calc 14 (by kernel_rfl) rfl ⟨_, rfl, (congrArg Value.bool (decide_eq_false (fun z => z c357)))⟩ ss_subB (q_not rfl) ?_
                      first | refine JD.calc 15 (by kernel_rfl) rfl trivial ss_subB (q_pickFv (v := .bool _) rfl (decide_eq_false (fun z => z c357)) rfl) ?_ | refine JD.calc 15 (by kernel_rfl) rfl trivial ss_subB (q_pickF rfl (decide_eq_false (fun z => z c357))) ?_
                      first | refine JD.calc 16 (by kernel_rfl) rfl trivial ss_subB (q_mvv (v := .bool _) rfl) ?_ | refine JD.calc 16 (by kernel_rfl) rfl trivial ss_subB (q_mv) ?_
                      refine JD.loadB 17 (by kernel_rfl) rfl ⟨_, rfl, (congrArg Value.bool (congrArg Bool.not (show y363 = true from c364)))⟩ (q_lda (vs := [_, _, _]) rfl inferInstance ⟨rfl, rfl, rfl, trivial⟩) ?_
                      refine JD.loadB 18 (by kernel_rfl) rfl ⟨_, rfl, (congrArg Value.bool (congrArg Bool.not (show y363 = true from c364)))⟩ (q_lda (vs := [_, _, _]) rfl inferInstance ⟨rfl, rfl, rfl, trivial⟩) ?_
                      refine JD.one 19 (by kernel_rfl) ?_
                      refine JX.effB rfl rfl ⟨_, rfl, (congrArg Value.bool (congrArg Bool.not (show y363 = true from c364)))⟩ ?_
                      refine o_call (sparse_Transpose_fn ⟨_, rfl, ⟨_, _, _, rfl, Sls.mono f120⟩⟩ e369) (fun v365 h366 s367 r368 => ?_)
                      obtain ⟨_, rfl, p371, n372, c373, rfl, f374⟩ := r368
                      refine JL.nil ⟨rfl, inferInstance, inferInstance, ?_⟩
                      refine JD.one 20 (by kernel_rfl) ?_
                      refine JX.effB rfl rfl ⟨_, rfl, (congrArg Value.bool (congrArg Bool.not (show y363 = true from c364)))⟩ ?_
                      refine o_call (torsionref06_Equal_fn ⟨_, rfl, ⟨_, _, _, rfl, Sls.mono f220⟩⟩ ⟨_, rfl, ⟨_, _, _, rfl, Sls.mono f374⟩⟩ e379) (fun v375 h376 s377 r378 => ?_)
                      obtain rfl := (show _ = _ from r378)
                      refine JL.nil ⟨rfl, inferInstance, inferInstance, ?_⟩
                      refine JD.calc 21 (by kernel_rfl) rfl ⟨_, rfl, (congrArg Value.bool (congrArg Bool.not (show y363 = true from c364)))⟩ ss_subB (q_not rfl) ?_
                      first | refine JD.calc 22 (by kernel_rfl) rfl trivial ss_subB (q_pickFv (v := .bool _) rfl (congrArg Bool.not (show y363 = true from c364)) rfl) ?_ | refine JD.calc 22 (by kernel_rfl) rfl trivial ss_subB (q_pickF rfl (congrArg Bool.not (show y363 = true from c364))) ?_
                      first | refine JD.calc 23 (by kernel_rfl) rfl trivial ss_subB (q_mvv (v := .bool _) rfl) ?_ | refine JD.calc 23 (by kernel_rfl) rfl trivial ss_subB (q_mv) ?_
                      refine JD.pass 24 (by kernel_rfl) rfl rfl (congrArg Value.bool (congrArg Bool.not (show y380 = false from (eq_false_of_ne_true c381)))) ss_subB ?_
                      refine JD.pass 25 (by kernel_rfl) rfl rfl (congrArg Value.bool (congrArg Bool.not (show y380 = false from (eq_false_of_ne_true c381)))) ss_subB ?_
                      refine JD.pass 26 (by kernel_rfl) rfl rfl (congrArg Value.bool (congrArg Bool.not (show y380 = false from (eq_false_of_ne_true c381)))) ss_subB ?_
                      refine JD.pass 27 (by kernel_rfl) rfl rfl (congrArg Value.bool (congrArg Bool.not (show y380 = false from (eq_false_of_ne_true c381)))) ss_subB ?_
                      refine JD.pass 28 (by kernel_rfl) rfl rfl (congrArg Value.bool (congrArg Bool.not (show y380 = false from (eq_false_of_ne_true c381)))) ss_subB ?_
                      refine JD.pass 29 (by kernel_rfl) rfl rfl (congrArg Value.bool (congrArg Bool.not (show y380 = false from (eq_false_of_ne_true c381)))) ss_subB ?_
                      first | refine JD.calc 30 (by kernel_rfl) rfl trivial ss_subB (q_pickTv (v := .bool _) rfl (congrArg Bool.not (show y380 = false from (eq_false_of_ne_true c381))) rfl) ?_ | refine JD.calc 30 (by kernel_rfl) rfl trivial ss_subB (q_pickT rfl (congrArg Bool.not (show y380 = false from (eq_false_of_ne_true c381)))) ?_
                      refine JD.done (by kernel_rfl) ?_ _
                      --
                      exact ⟨true, rfl, ⟨rfl, rfl, rfl, rfl, trivial⟩, ⟨rfl, trivial⟩, ⟨hm, inferInstance⟩, inferInstance⟩
                  ·
                    replace hm := ite_F c364 hm
                    refine J.drawB [b171, b186] [] ?_
                    first | refine JD.calc 0 (by kernel_rfl) rfl trivial ss_subB (q_mvv (v := .int _ _) rfl) ?_ | refine JD.calc 0 (by kernel_rfl) rfl trivial ss_subB (q_mv) ?_
                    refine JD.calc 1 (by kernel_rfl) rfl trivial ss_subB (q_neq rfl rfl) ?_
                    first | refine JD.calc 2 (by kernel_rfl) rfl trivial ss_subB (q_mvv (v := .bool _) rfl) ?_ | refine JD.calc 2 (by kernel_rfl) rfl trivial ss_subB (q_mv) ?_
                    first | refine JD.calc 3 (by kernel_rfl) rfl ⟨_, rfl, (congrArg Value.bool (decide_eq_false (fun z => z c355)))⟩ ss_subB (q_mvv (v := .int _ _) rfl) ?_ | refine JD.calc 3 (by kernel_rfl) rfl ⟨_, rfl, (congrArg Value.bool (decide_eq_false (fun z => z c355)))⟩ ss_subB (q_mv) ?_
                    refine JD.calc 4 (by kernel_rfl) rfl ⟨_, rfl, (congrArg Value.bool (decide_eq_false (fun z => z c355)))⟩ ss_subB (q_neq rfl rfl) ?_
                    first | refine JD.calc 5 (by kernel_rfl) rfl trivial ss_subB (q_pickFv (v := .bool _) rfl (decide_eq_false (fun z => z c355)) rfl) ?_ | refine JD.calc 5 (by kernel_rfl) rfl trivial ss_subB (q_pickF rfl (decide_eq_false (fun z => z c355))) ?_
                    first | refine JD.calc 6 (by kernel_rfl) rfl trivial ss_subB (q_mvv (v := .bool _) rfl) ?_ | refine JD.calc 6 (by kernel_rfl) rfl trivial ss_subB (q_mv) ?_
                    first | refine JD.calc 7 (by kernel_rfl) rfl ⟨_, rfl, (congrArg Value.bool (decide_eq_false (fun z => z c356)))⟩ ss_subB (q_mvv (v := .int _ _) rfl) ?_ | refine JD.calc 7 (by kernel_rfl) rfl ⟨_, rfl, (congrArg Value.bool (decide_eq_false (fun z => z c356)))⟩ ss_subB (q_mv) ?_
                    refine JD.calc 8 (by kernel_rfl) rfl ⟨_, rfl, (congrArg Value.bool (decide_eq_false (fun z => z c356)))⟩ ss_subB (q_neq rfl rfl) ?_
                    first | refine JD.calc 9 (by kernel_rfl) rfl trivial ss_subB (q_pickFv (v := .bool _) rfl (decide_eq_false (fun z => z c356)) rfl) ?_ | refine JD.calc 9 (by kernel_rfl) rfl trivial ss_subB (q_pickF rfl (decide_eq_false (fun z => z c356))) ?_
                    first | refine JD.calc 10 (by kernel_rfl) rfl trivial ss_subB (q_mvv (v := .bool _) rfl) ?_ | refine JD.calc 10 (by kernel_rfl) rfl trivial ss_subB (q_mv) ?_
                    refine JD.loadB 11 (by kernel_rfl) rfl ⟨_, rfl, (congrArg Value.bool (decide_eq_false (fun z => z c357)))⟩ (q_lda (vs := [_, _, _]) rfl inferInstance ⟨rfl, rfl, rfl, trivial⟩) ?_
                    refine JD.loadB 12 (by kernel_rfl) rfl ⟨_, rfl, (congrArg Value.bool (decide_eq_false (fun z => z c357)))⟩ (q_lda (vs := [_, _, _]) rfl inferInstance ⟨rfl, rfl, rfl, trivial⟩) ?_
                    refine JD.one 13 (by kernel_rfl) ?_
                    refine JX.effB rfl rfl ⟨_, rfl, (congrArg Value.bool (decide_eq_false (fun z => z c357)))⟩ ?_
                    refine o_call (torsionref06_Equal_fn ⟨_, rfl, ⟨_, _, _, rfl, Sls.mono f170⟩⟩ ⟨_, rfl, ⟨_, _, _, rfl, Sls.mono f185⟩⟩ e362) (fun v358 h359 s360 r361 => ?_)
                    obtain rfl := (show _ = _ from r361)
                    refine JL.nil ⟨rfl, inferInstance, inferInstance, ?_⟩
                    refine JD.calc 14 (by kernel_rfl) rfl ⟨_, rfl, (congrArg Value.bool (decide_eq_false (fun z => z c357)))⟩ ss_subB (q_not rfl) ?_
                    first | refine JD.calc 15 (by kernel_rfl) rfl trivial ss_subB (q_pickFv (v := .bool _) rfl (decide_eq_false (fun z => z c357)) rfl) ?_ | refine JD.calc 15 (by kernel_rfl) rfl trivial ss_subB (q_pickF rfl (decide_eq_false (fun z => z c357))) ?_
                    first | refine JD.calc 16 (by kernel_rfl) rfl trivial ss_subB (q_mvv (v := .bool _) rfl) ?_ | refine JD.calc 16 (by kernel_rfl) rfl trivial ss_subB (q_mv) ?_
                    refine JD.pass 17 (by kernel_rfl) rfl rfl (congrArg Value.bool (congrArg Bool.not (show y363 = false from (eq_false_of_ne_true c364)))) ss_subB ?_
                    refine JD.pass 18 (by kernel_rfl) rfl rfl (congrArg Value.bool (congrArg Bool.not (show y363 = false from (eq_false_of_ne_true c364)))) ss_subB ?_
                    refine JD.pass 19 (by kernel_rfl) rfl rfl (congrArg Value.bool (congrArg Bool.not (show y363 = false from (eq_false_of_ne_true c364)))) ss_subB ?_
                    refine JD.pass 20 (by kernel_rfl) rfl rfl (congrArg Value.bool (congrArg Bool.not (show y363 = false from (eq_false_of_ne_true c364)))) ss_subB ?_
                    refine JD.pass 21 (by kernel_rfl) rfl rfl (congrArg Value.bool (congrArg Bool.not (show y363 = false from (eq_false_of_ne_true c364)))) ss_subB ?_
                    first | refine JD.calc 22 (by kernel_rfl) rfl trivial ss_subB (q_pickTv (v := .bool _) rfl (congrArg Bool.not (show y363 = false from (eq_false_of_ne_true c364))) rfl) ?_ | refine JD.calc 22 (by kernel_rfl) rfl trivial ss_subB (q_pickT rfl (congrArg Bool.not (show y363 = false from (eq_false_of_ne_true c364)))) ?_
                    first | refine JD.calc 23 (by kernel_rfl) rfl trivial ss_subB (q_mvv (v := .bool _) rfl) ?_ | refine JD.calc 23 (by kernel_rfl) rfl trivial ss_subB (q_mv) ?_
                    refine JD.pass 24 (by kernel_rfl) rfl rfl rfl ss_subB ?_
                    refine JD.pass 25 (by kernel_rfl) rfl rfl rfl ss_subB ?_
                    refine JD.pass 26 (by kernel_rfl) rfl rfl rfl ss_subB ?_
                    refine JD.pass 27 (by kernel_rfl) rfl rfl rfl ss_subB ?_
                    refine JD.pass 28 (by kernel_rfl) rfl rfl rfl ss_subB ?_
                    refine JD.pass 29 (by kernel_rfl) rfl rfl rfl ss_subB ?_
                    first | refine JD.calc 30 (by kernel_rfl) rfl trivial ss_subB (q_pickTv (v := .bool _) rfl rfl rfl) ?_ | refine JD.calc 30 (by kernel_rfl) rfl trivial ss_subB (q_pickT rfl rfl) ?_
                    refine JD.done (by kernel_rfl) ?_ _
                    --
                    exact ⟨true, rfl, ⟨rfl, rfl, rfl, rfl, trivial⟩, ⟨rfl, trivial⟩, ⟨hm, inferInstance⟩, inferInstance⟩
                ·
                  replace hm := ite_F c357 hm
                  refine J.drawB [] [] ?_
                  first | refine JD.calc 0 (by kernel_rfl) rfl trivial ss_subB (q_mvv (v := .int _ _) rfl) ?_ | refine JD.calc 0 (by kernel_rfl) rfl trivial ss_subB (q_mv) ?_
                  refine JD.calc 1 (by kernel_rfl) rfl trivial ss_subB (q_neq rfl rfl) ?_
                  first | refine JD.calc 2 (by kernel_rfl) rfl trivial ss_subB (q_mvv (v := .bool _) rfl) ?_ | refine JD.calc 2 (by kernel_rfl) rfl trivial ss_subB (q_mv) ?_
                  first | refine JD.calc 3 (by kernel_rfl) rfl ⟨_, rfl, (congrArg Value.bool (decide_eq_false (fun z => z c355)))⟩ ss_subB (q_mvv (v := .int _ _) rfl) ?_ | refine JD.calc 3 (by kernel_rfl) rfl ⟨_, rfl, (congrArg Value.bool (decide_eq_false (fun z => z c355)))⟩ ss_subB (q_mv) ?_
                  refine JD.calc 4 (by kernel_rfl) rfl ⟨_, rfl, (congrArg Value.bool (decide_eq_false (fun z => z c355)))⟩ ss_subB (q_neq rfl rfl) ?_
                  first | refine JD.calc 5 (by kernel_rfl) rfl trivial ss_subB (q_pickFv (v := .bool _) rfl (decide_eq_false (fun z => z c355)) rfl) ?_ | refine JD.calc 5 (by kernel_rfl) rfl trivial ss_subB (q_pickF rfl (decide_eq_false (fun z => z c355))) ?_
                  first | refine JD.calc 6 (by kernel_rfl) rfl trivial ss_subB (q_mvv (v := .bool _) rfl) ?_ | refine JD.calc 6 (by kernel_rfl) rfl trivial ss_subB (q_mv) ?_
                  first | refine JD.calc 7 (by kernel_rfl) rfl ⟨_, rfl, (congrArg Value.bool (decide_eq_false (fun z => z c356)))⟩ ss_subB (q_mvv (v := .int _ _) rfl) ?_ | refine JD.calc 7 (by kernel_rfl) rfl ⟨_, rfl, (congrArg Value.bool (decide_eq_false (fun z => z c356)))⟩ ss_subB (q_mv) ?_
                  refine JD.calc 8 (by kernel_rfl) rfl ⟨_, rfl, (congrArg Value.bool (decide_eq_false (fun z => z c356)))⟩ ss_subB (q_neq rfl rfl) ?_
                  first | refine JD.calc 9 (by kernel_rfl) rfl trivial ss_subB (q_pickFv (v := .bool _) rfl (decide_eq_false (fun z => z c356)) rfl) ?_ | refine JD.calc 9 (by kernel_rfl) rfl trivial ss_subB (q_pickF rfl (decide_eq_false (fun z => z c356))) ?_
                  first | refine JD.calc 10 (by kernel_rfl) rfl trivial ss_subB (q_mvv (v := .bool _) rfl) ?_ | refine JD.calc 10 (by kernel_rfl) rfl trivial ss_subB (q_mv) ?_
                  refine JD.pass 11 (by kernel_rfl) rfl rfl (congrArg Value.bool (decide_eq_true c357)) ss_subB ?_
                  refine JD.pass 12 (by kernel_rfl) rfl rfl (congrArg Value.bool (decide_eq_true c357)) ss_subB ?_
                  refine JD.pass 13 (by kernel_rfl) rfl rfl (congrArg Value.bool (decide_eq_true c357)) ss_subB ?_
                  refine JD.pass 14 (by kernel_rfl) rfl rfl (congrArg Value.bool (decide_eq_true c357)) ss_subB ?_
                  first | refine JD.calc 15 (by kernel_rfl) rfl trivial ss_subB (q_pickTv (v := .bool _) rfl (decide_eq_true c357) rfl) ?_ | refine JD.calc 15 (by kernel_rfl) rfl trivial ss_subB (q_pickT rfl (decide_eq_true c357)) ?_
                  first | refine JD.calc 16 (by kernel_rfl) rfl trivial ss_subB (q_mvv (v := .bool _) rfl) ?_ | refine JD.calc 16 (by kernel_rfl) rfl trivial ss_subB (q_mv) ?_
                  refine JD.pass 17 (by kernel_rfl) rfl rfl rfl ss_subB ?_
                  refine JD.pass 18 (by kernel_rfl) rfl rfl rfl ss_subB ?_
                  refine JD.pass 19 (by kernel_rfl) rfl rfl rfl ss_subB ?_
                  refine JD.pass 20 (by kernel_rfl) rfl rfl rfl ss_subB ?_
                  refine JD.pass 21 (by kernel_rfl) rfl rfl rfl ss_subB ?_
                  first | refine JD.calc 22 (by kernel_rfl) rfl trivial ss_subB (q_pickTv (v := .bool _) rfl rfl rfl) ?_ | refine JD.calc 22 (by kernel_rfl) rfl trivial ss_subB (q_pickT rfl rfl) ?_
                  first | refine JD.calc 23 (by kernel_rfl) rfl trivial ss_subB (q_mvv (v := .bool _) rfl) ?_ | refine JD.calc 23 (by kernel_rfl) rfl trivial ss_subB (q_mv) ?_
                  refine JD.pass 24 (by kernel_rfl) rfl rfl rfl ss_subB ?_
                  refine JD.pass 25 (by kernel_rfl) rfl rfl rfl ss_subB ?_
                  refine JD.pass 26 (by kernel_rfl) rfl rfl rfl ss_subB ?_
                  refine JD.pass 27 (by kernel_rfl) rfl rfl rfl ss_subB ?_
                  refine JD.pass 28 (by kernel_rfl) rfl rfl rfl ss_subB ?_
                  refine JD.pass 29 (by kernel_rfl) rfl rfl rfl ss_subB ?_
                  first | refine JD.calc 30 (by kernel_rfl) rfl trivial ss_subB (q_pickTv (v := .bool _) rfl rfl rfl) ?_ | refine JD.calc 30 (by kernel_rfl) rfl trivial ss_subB (q_pickT rfl rfl) ?_
                  refine JD.done (by kernel_rfl) ?_ _
                  --
                  exact ⟨true, rfl, ⟨rfl, rfl, rfl, rfl, trivial⟩, ⟨rfl, trivial⟩, ⟨hm, inferInstance⟩, inferInstance⟩
              ·
                replace hm := ite_F c356 hm
                refine J.drawB [] [] ?_
                first | refine JD.calc 0 (by kernel_rfl) rfl trivial ss_subB (q_mvv (v := .int _ _) rfl) ?_ | refine JD.calc 0 (by kernel_rfl) rfl trivial ss_subB (q_mv) ?_
                refine JD.calc 1 (by kernel_rfl) rfl trivial ss_subB (q_neq rfl rfl) ?_
                first | refine JD.calc 2 (by kernel_rfl) rfl trivial ss_subB (q_mvv (v := .bool _) rfl) ?_ | refine JD.calc 2 (by kernel_rfl) rfl trivial ss_subB (q_mv) ?_
                first | refine JD.calc 3 (by kernel_rfl) rfl ⟨_, rfl, (congrArg Value.bool (decide_eq_false (fun z => z c355)))⟩ ss_subB (q_mvv (v := .int _ _) rfl) ?_ | refine JD.calc 3 (by kernel_rfl) rfl ⟨_, rfl, (congrArg Value.bool (decide_eq_false (fun z => z c355)))⟩ ss_subB (q_mv) ?_
                refine JD.calc 4 (by kernel_rfl) rfl ⟨_, rfl, (congrArg Value.bool (decide_eq_false (fun z => z c355)))⟩ ss_subB (q_neq rfl rfl) ?_
                first | refine JD.calc 5 (by kernel_rfl) rfl trivial ss_subB (q_pickFv (v := .bool _) rfl (decide_eq_false (fun z => z c355)) rfl) ?_ | refine JD.calc 5 (by kernel_rfl) rfl trivial ss_subB (q_pickF rfl (decide_eq_false (fun z => z c355))) ?_
                first | refine JD.calc 6 (by kernel_rfl) rfl trivial ss_subB (q_mvv (v := .bool _) rfl) ?_ | refine JD.calc 6 (by kernel_rfl) rfl trivial ss_subB (q_mv) ?_
                refine JD.pass 7 (by kernel_rfl) rfl rfl (congrArg Value.bool (decide_eq_true c356)) ss_subB ?_
                refine JD.pass 8 (by kernel_rfl) rfl rfl (congrArg Value.bool (decide_eq_true c356)) ss_subB ?_
                first | refine JD.calc 9 (by kernel_rfl) rfl trivial ss_subB (q_pickTv (v := .bool _) rfl (decide_eq_true c356) rfl) ?_ | refine JD.calc 9 (by kernel_rfl) rfl trivial ss_subB (q_pickT rfl (decide_eq_true c356)) ?_
                first | refine JD.calc 10 (by kernel_rfl) rfl trivial ss_subB (q_mvv (v := .bool _) rfl) ?_ | refine JD.calc 10 (by kernel_rfl) rfl trivial ss_subB (q_mv) ?_
                refine JD.pass 11 (by kernel_rfl) rfl rfl rfl ss_subB ?_
                refine JD.pass 12 (by kernel_rfl) rfl rfl rfl ss_subB ?_
                refine JD.pass 13 (by kernel_rfl) rfl rfl rfl ss_subB ?_
                refine JD.pass 14 (by kernel_rfl) rfl rfl rfl ss_subB ?_
                first | refine JD.calc 15 (by kernel_rfl) rfl trivial ss_subB (q_pickTv (v := .bool _) rfl rfl rfl) ?_ | refine JD.calc 15 (by kernel_rfl) rfl trivial ss_subB (q_pickT rfl rfl) ?_
                first | refine JD.calc 16 (by kernel_rfl) rfl trivial ss_subB (q_mvv (v := .bool _) rfl) ?_ | refine JD.calc 16 (by kernel_rfl) rfl trivial ss_subB (q_mv) ?_
                refine JD.pass 17 (by kernel_rfl) rfl rfl rfl ss_subB ?_
                refine JD.pass 18 (by kernel_rfl) rfl rfl rfl ss_subB ?_
                refine JD.pass 19 (by kernel_rfl) rfl rfl rfl ss_subB ?_
                refine JD.pass 20 (by kernel_rfl) rfl rfl rfl ss_subB ?_
                refine JD.pass 21 (by kernel_rfl) rfl rfl rfl ss_subB ?_
                first | refine JD.calc 22 (by kernel_rfl) rfl trivial ss_subB (q_pickTv (v := .bool _) rfl rfl rfl) ?_ | refine JD.calc 22 (by kernel_rfl) rfl trivial ss_subB (q_pickT rfl rfl) ?_
                first | refine JD.calc 23 (by kernel_rfl) rfl trivial ss_subB (q_mvv (v := .bool _) rfl) ?_ | refine JD.calc 23 (by kernel_rfl) rfl trivial ss_subB (q_mv) ?_
                refine JD.pass 24 (by kernel_rfl) rfl rfl rfl ss_subB ?_
                refine JD.pass 25 (by kernel_rfl) rfl rfl rfl ss_subB ?_
                refine JD.pass 26 (by kernel_rfl) rfl rfl rfl ss_subB ?_
                refine JD.pass 27 (by kernel_rfl) rfl rfl rfl ss_subB ?_
                refine JD.pass 28 (by kernel_rfl) rfl rfl rfl ss_subB ?_
                refine JD.pass 29 (by kernel_rfl) rfl rfl rfl ss_subB ?_
                first | refine JD.calc 30 (by kernel_rfl) rfl trivial ss_subB (q_pickTv (v := .bool _) rfl rfl rfl) ?_ | refine JD.calc 30 (by kernel_rfl) rfl trivial ss_subB (q_pickT rfl rfl) ?_
                refine JD.done (by kernel_rfl) ?_ _
                --
                exact ⟨true, rfl, ⟨rfl, rfl, rfl, rfl, trivial⟩, ⟨rfl, trivial⟩, ⟨hm, inferInstance⟩, inferInstance⟩
            ·
              replace hm := ite_F c355 hm
              refine J.drawB [] [] ?_
              first | refine JD.calc 0 (by kernel_rfl) rfl trivial ss_subB (q_mvv (v := .int _ _) rfl) ?_ | refine JD.calc 0 (by kernel_rfl) rfl trivial ss_subB (q_mv) ?_
              refine JD.calc 1 (by kernel_rfl) rfl trivial ss_subB (q_neq rfl rfl) ?_
              first | refine JD.calc 2 (by kernel_rfl) rfl trivial ss_subB (q_mvv (v := .bool _) rfl) ?_ | refine JD.calc 2 (by kernel_rfl) rfl trivial ss_subB (q_mv) ?_
              refine JD.pass 3 (by kernel_rfl) rfl rfl (congrArg Value.bool (decide_eq_true c355)) ss_subB ?_
              refine JD.pass 4 (by kernel_rfl) rfl rfl (congrArg Value.bool (decide_eq_true c355)) ss_subB ?_
              first | refine JD.calc 5 (by kernel_rfl) rfl trivial ss_subB (q_pickTv (v := .bool _) rfl (decide_eq_true c355) rfl) ?_ | refine JD.calc 5 (by kernel_rfl) rfl trivial ss_subB (q_pickT rfl (decide_eq_true c355)) ?_
              first | refine JD.calc 6 (by kernel_rfl) rfl trivial ss_subB (q_mvv (v := .bool _) rfl) ?_ | refine JD.calc 6 (by kernel_rfl) rfl trivial ss_subB (q_mv) ?_
              refine JD.pass 7 (by kernel_rfl) rfl rfl rfl ss_subB ?_
              refine JD.pass 8 (by kernel_rfl) rfl rfl rfl ss_subB ?_
              first | refine JD.calc 9 (by kernel_rfl) rfl trivial ss_subB (q_pickTv (v := .bool _) rfl rfl rfl) ?_ | refine JD.calc 9 (by kernel_rfl) rfl trivial ss_subB (q_pickT rfl rfl) ?_
              first | refine JD.calc 10 (by kernel_rfl) rfl trivial ss_subB (q_mvv (v := .bool _) rfl) ?_ | refine JD.calc 10 (by kernel_rfl) rfl trivial ss_subB (q_mv) ?_
              refine JD.pass 11 (by kernel_rfl) rfl rfl rfl ss_subB ?_
              refine JD.pass 12 (by kernel_rfl) rfl rfl rfl ss_subB ?_
              refine JD.pass 13 (by kernel_rfl) rfl rfl rfl ss_subB ?_
              refine JD.pass 14 (by kernel_rfl) rfl rfl rfl ss_subB ?_
              first | refine JD.calc 15 (by kernel_rfl) rfl trivial ss_subB (q_pickTv (v := .bool _) rfl rfl rfl) ?_ | refine JD.calc 15 (by kernel_rfl) rfl trivial ss_subB (q_pickT rfl rfl) ?_
              first | refine JD.calc 16 (by kernel_rfl) rfl trivial ss_subB (q_mvv (v := .bool _) rfl) ?_ | refine JD.calc 16 (by kernel_rfl) rfl trivial ss_subB (q_mv) ?_
              refine JD.pass 17 (by kernel_rfl) rfl rfl rfl ss_subB ?_
              refine JD.pass 18 (by kernel_rfl) rfl rfl rfl ss_subB ?_
              refine JD.pass 19 (by kernel_rfl) rfl rfl rfl ss_subB ?_
              refine JD.pass 20 (by kernel_rfl) rfl rfl rfl ss_subB ?_
              refine JD.pass 21 (by kernel_rfl) rfl rfl rfl ss_subB ?_
              first | refine JD.calc 22 (by kernel_rfl) rfl trivial ss_subB (q_pickTv (v := .bool _) rfl rfl rfl) ?_ | refine JD.calc 22 (by kernel_rfl) rfl trivial ss_subB (q_pickT rfl rfl) ?_
              first | refine JD.calc 23 (by kernel_rfl) rfl trivial ss_subB (q_mvv (v := .bool _) rfl) ?_ | refine JD.calc 23 (by kernel_rfl) rfl trivial ss_subB (q_mv) ?_
              refine JD.pass 24 (by kernel_rfl) rfl rfl rfl ss_subB ?_
              refine JD.pass 25 (by kernel_rfl) rfl rfl rfl ss_subB ?_
              refine JD.pass 26 (by kernel_rfl) rfl rfl rfl ss_subB ?_
              refine JD.pass 27 (by kernel_rfl) rfl rfl rfl ss_subB ?_
              refine JD.pass 28 (by kernel_rfl) rfl rfl rfl ss_subB ?_
              refine JD.pass 29 (by kernel_rfl) rfl rfl rfl ss_subB ?_
              first | refine JD.calc 30 (by kernel_rfl) rfl trivial ss_subB (q_pickTv (v := .bool _) rfl rfl rfl) ?_ | refine JD.calc 30 (by kernel_rfl) rfl trivial ss_subB (q_pickT rfl rfl) ?_
              refine JD.done (by kernel_rfl) ?_ _
              --
              exact ⟨true, rfl, ⟨rfl, rfl, rfl, rfl, trivial⟩, ⟨rfl, trivial⟩, ⟨hm, inferInstance⟩, inferInstance⟩
          ·
            rintro v223 σq224 hq224 Lq224 sq224 ⟨hm, hspq224⟩
            refine J.sp hspq224 ?_
            unfold M.torsionlaw06_SparseMultiplies_j2 at hm
            by_cases c275 : v223 = true
            ·
              replace hm := ite_T c275 hm
              refine J.condT rfl c275 ?_
              refine J.seq ?_
              refine J.region ?_
              first | refine o_q (q_asv (v := .bool _) rfl) ?_ | refine o_q (q_as) ?_
              refine JL.nil ?_
              refine J.ret ?_
              obtain rfl := Option.some.inj hm
              exact ret_ok (fn := Try.f6) rfl (.tmp rfl .nil) rfl
            ·
              replace hm := ite_F c275 hm
              refine J.condF rfl (eq_false_of_ne_true c275) ?_
              refine J.skip ?_
              refine J.seq ?_
              refine J.seq ?_
              refine J.region ?_
              first | refine o_q (q_asv (v := .int _ _) rfl) ?_ | refine o_q (q_as) ?_
              refine JL.nil ?_
              refine J.block ?_
              obtain ⟨k278, hm⟩ := rngN_some hm
              refine J.loopK (α := Int) (fun i277 h' L' => 0 ≤ i277 ∧ forN (M.torsionlaw06_SparseMultiplies_b1 y57 y79 y112) (M.torsionlaw06_SparseMultiplies_k1 y41) y57.Rows i277 () = some r ∧ Sp ([(b62, row 24 [.int .i64 y57.Rows, .int .i64 y57.Cols, .slice p58 n59 c60]), (b84, row 24 [.int .i64 y79.Rows, .int .i64 y79.Cols, .slice p80 n81 c82]), (b121, row 24 [.int .i64 y112.1.Rows, .int .i64 y112.1.Cols, .slice p117 n118 c119])]) L') [(7, .bool _), (8, .pointer _), (9, .pointer _), (11, .pointer _)] ⟨rfl, rfl, rfl, rfl, trivial⟩ (fun i277 => [(21, .int .i64 i277)]) (fun i277 => (y57.Rows - i277).toNat) 0 ⟨Int.le_refl _, hm, inferInstance⟩ ⟨rfl, trivial⟩ ?_
              rintro i277 σq279 hq279 Lq279 sq279 ⟨hle280, hm, hspq279⟩
              refine J.sp hspq279 ?_
              refine J.seq ?_
              refine J.seq ?_
              refine J.region ?_
              first | refine o_q (q_mvv (v := .int _ _) rfl) ?_ | refine o_q (q_mv) ?_
              refine o_q (q_fa rfl) ?_
              refine o_q (q_ld rfl inferInstance rfl) ?_
              refine o_q (q_lss rfl rfl) ?_
              refine JL.nil ?_
              by_cases c283 : i277 < y57.Rows
              ·
                obtain ⟨o281, hm, hk282⟩ := forN_lt c283 hm
                unfold M.torsionlaw06_SparseMultiplies_b1 at hm
                refine J.condT rfl (decide_eq_true c283) ?_
                have k284 : -9223372036854775808 ≤ i277 + 1 ∧ i277 + 1 ≤ 9223372036854775807 := by omega
                refine J.skip ?_
                refine J.seq ?_
                refine J.block ?_
                refine J.seq ?_
                obtain ⟨i286, x285, hi287, hl288, hx289, hm⟩ := nth_some hm
                obtain ⟨b290, o291, rfl⟩ := Sls.op f61 hl288
                obtain ⟨us292, hc293, hR294⟩ := Sls.at f61 hx289
                obtain ⟨p295, n296, c297, rfl, f298⟩ := hR294
                obtain ⟨y304, e303, hm⟩ := bnd_some hm
                obtain ⟨y314, e313, hm⟩ := bnd_some hm
                refine J.drawB [b62, b84] [] ?_
                refine JD.calc 0 (by kernel_rfl) rfl trivial ss_subB (q_fa rfl) ?_
                refine JD.loadB 1 (by kernel_rfl) rfl trivial (q_ld rfl inferInstance rfl) ?_
                first | refine JD.calc 2 (by kernel_rfl) rfl trivial ss_subB (q_mvv (v := .int _ _) rfl) ?_ | refine JD.calc 2 (by kernel_rfl) rfl trivial ss_subB (q_mv) ?_
                refine JD.calc 3 (by kernel_rfl) rfl trivial ss_subB (q_ian rfl rfl hi287 (by first | exact hl288 | (rw [Sls.len f61]; exact hl288))) ?_
                refine JD.loadB 4 (by kernel_rfl) rfl trivial (q_ldf rfl hc293) ?_
                refine JD.calc 5 (by kernel_rfl) rfl trivial ss_subB (q_fa rfl) ?_
                refine JD.loadB 6 (by kernel_rfl) rfl trivial (q_ld rfl inferInstance rfl) ?_
                refine JD.loadB 8 (by kernel_rfl) rfl trivial (q_lda (vs := [_, _, _]) rfl inferInstance ⟨rfl, rfl, rfl, trivial⟩) ?_
                refine JD.one 7 (by kernel_rfl) ?_
                refine JX.effB rfl rfl trivial ?_
                refine o_call (torsionref06_Full_fn (Sls.mono f298) e303) (fun v299 h300 s301 r302 => ?_)
                obtain ⟨p305, n306, c307, rfl, f308⟩ := Sls.op3 r302
                refine JL.nil ⟨rfl, inferInstance, inferInstance, ?_⟩
                refine JD.one 9 (by kernel_rfl) ?_
                refine JX.effB rfl rfl trivial ?_
                refine o_call (sparse_Times_fn (Sls.mono f308) ⟨_, rfl, ⟨_, _, _, rfl, Sls.mono f83⟩⟩ e313) (fun v309 h310 s311 r312 => ?_)
                obtain ⟨v315, v316, rfl, r317, r318⟩ := r312
                obtain ⟨p319, n320, c321, rfl, f322⟩ := Sls.op3 r317
                obtain rfl := (show _ = _ from r318)
                refine JL.nil ⟨rfl, inferInstance, inferInstance, ?_⟩
                refine JD.calc 10 (by kernel_rfl) rfl trivial ss_subB (q_mv) ?_
                refine JD.calc 11 (by kernel_rfl) rfl trivial ss_subB (q_ex rfl rfl) ?_
                refine JD.calc 12 (by kernel_rfl) rfl trivial ss_subB (q_ex rfl rfl) ?_
                first | refine JD.calc 13 (by kernel_rfl) rfl trivial ss_subB (q_asv (v := .slice _ _ _) rfl) ?_ | refine JD.calc 13 (by kernel_rfl) rfl trivial ss_subB (q_as) ?_
                first | refine JD.calc 14 (by kernel_rfl) rfl trivial ss_subB (q_asv (v := .int _ _) rfl) ?_ | refine JD.calc 14 (by kernel_rfl) rfl trivial ss_subB (q_as) ?_
                refine JD.done (by kernel_rfl) ?_ _
                --
                refine J.seq ?_
                by_cases c323 : y314.2 = 0
                ·
                  replace hm := ite_T c323 hm
                  obtain ⟨y329, e328, hm⟩ := bnd_some hm
                  obtain ⟨i335, x334, hi336, hl337, hx338, hm⟩ := nth_some hm
                  obtain ⟨b339, o340, rfl⟩ := Sls.op f120 hl337
                  obtain ⟨us341, hc342, hR343⟩ := Sls.at f120 hx338
                  obtain ⟨p344, n345, c346, rfl, f347⟩ := hR343
                  obtain ⟨y353, e352, hm⟩ := bnd_some hm
                  refine J.drawB [b121] [] ?_
                  first | refine JD.calc 0 (by kernel_rfl) rfl trivial ss_subB (q_mvv (v := .int _ _) rfl) ?_ | refine JD.calc 0 (by kernel_rfl) rfl trivial ss_subB (q_mv) ?_
                  refine JD.calc 1 (by kernel_rfl) rfl trivial ss_subB (q_neq rfl rfl) ?_
                  first | refine JD.calc 2 (by kernel_rfl) rfl trivial ss_subB (q_mvv (v := .bool _) rfl) ?_ | refine JD.calc 2 (by kernel_rfl) rfl trivial ss_subB (q_mv) ?_
                  first | refine JD.calc 3 (by kernel_rfl) rfl ⟨_, rfl, (congrArg Value.bool (decide_eq_false (fun z => z c323)))⟩ ss_subB (q_mvv (v := .slice _ _ _) rfl) ?_ | refine JD.calc 3 (by kernel_rfl) rfl ⟨_, rfl, (congrArg Value.bool (decide_eq_false (fun z => z c323)))⟩ ss_subB (q_mv) ?_
                  refine JD.calc 5 (by kernel_rfl) rfl ⟨_, rfl, (congrArg Value.bool (decide_eq_false (fun z => z c323)))⟩ ss_subB (q_fa rfl) ?_
                  refine JD.loadB 6 (by kernel_rfl) rfl ⟨_, rfl, (congrArg Value.bool (decide_eq_false (fun z => z c323)))⟩ (q_ld rfl inferInstance rfl) ?_
                  first | refine JD.calc 7 (by kernel_rfl) rfl ⟨_, rfl, (congrArg Value.bool (decide_eq_false (fun z => z c323)))⟩ ss_subB (q_mvv (v := .int _ _) rfl) ?_ | refine JD.calc 7 (by kernel_rfl) rfl ⟨_, rfl, (congrArg Value.bool (decide_eq_false (fun z => z c323)))⟩ ss_subB (q_mv) ?_
                  refine JD.calc 8 (by kernel_rfl) rfl ⟨_, rfl, (congrArg Value.bool (decide_eq_false (fun z => z c323)))⟩ ss_subB (q_ian rfl rfl hi336 (by first | exact hl337 | (rw [Sls.len f120]; exact hl337))) ?_
                  refine JD.loadB 9 (by kernel_rfl) rfl ⟨_, rfl, (congrArg Value.bool (decide_eq_false (fun z => z c323)))⟩ (q_ldf rfl hc342) ?_
                  refine JD.one 4 (by kernel_rfl) ?_
                  refine JX.effB rfl rfl ⟨_, rfl, (congrArg Value.bool (decide_eq_false (fun z => z c323)))⟩ ?_
                  refine o_call (torsionref06_Row_fn (Sls.mono f322) e328) (fun v324 h325 s326 r327 => ?_)
                  obtain ⟨p330, n331, c332, rfl, f333⟩ := Sls.op3 r327
                  refine JL.nil ⟨rfl, inferInstance, inferInstance, ?_⟩
                  refine JD.one 10 (by kernel_rfl) ?_
                  refine JX.effB rfl rfl ⟨_, rfl, (congrArg Value.bool (decide_eq_false (fun z => z c323)))⟩ ?_
                  refine o_call (torsionref06_SameRow_fn (Sls.mono f333) (Sls.mono f347) e352) (fun v348 h349 s350 r351 => ?_)
                  obtain rfl := (show _ = _ from r351)
                  refine JL.nil ⟨rfl, inferInstance, inferInstance, ?_⟩
                  refine JD.calc 11 (by kernel_rfl) rfl ⟨_, rfl, (congrArg Value.bool (decide_eq_false (fun z => z c323)))⟩ ss_subB (q_not rfl) ?_
                  first | refine JD.calc 12 (by kernel_rfl) rfl trivial ss_subB (q_pickFv (v := .bool _) rfl (decide_eq_false (fun z => z c323)) rfl) ?_ | refine JD.calc 12 (by kernel_rfl) rfl trivial ss_subB (q_pickF rfl (decide_eq_false (fun z => z c323))) ?_
                  refine JD.done (by kernel_rfl) ?_ _
                  --
                  by_cases c354 : y353 = true
                  ·
                    replace hm := ite_T c354 hm
                    refine J.condF rfl (congrArg Bool.not (show y353 = true from c354)) ?_
                    refine J.skip ?_
                    refine J.region ?_
                    first | refine o_q (q_mvv (v := .int _ _) rfl) ?_ | refine o_q (q_mv) ?_
                    refine o_q (q_add rfl rfl (wi64 k284)) ?_
                    first | refine o_q (q_asv (v := .int _ _) rfl) ?_ | refine o_q (q_as) ?_
                    refine JL.nil ?_
                    replace hm := inl_onward hm hk282
                    exact ⟨(i277 + 1), rfl, ⟨rfl, rfl, rfl, rfl, trivial⟩, ⟨rfl, trivial⟩, ⟨Int.le_trans hle280 (Int.le_of_lt (Int.lt_succ _)), hm, inferInstance⟩, (muN c283), inferInstance⟩
                  ·
                    replace hm := ite_F c354 hm
                    refine J.condT rfl (congrArg Bool.not (show y353 = false from (eq_false_of_ne_true c354))) ?_
                    refine J.seq ?_
                    refine J.region ?_
                    first | refine o_q (q_asv (v := .bool _) rfl) ?_ | refine o_q (q_as) ?_
                    refine JL.nil ?_
                    replace hm := inr_onward hm hk282
                    refine J.ret ?_
                    obtain rfl := Option.some.inj hm
                    exact ret_ok (fn := Try.f6) rfl (.tmp rfl .nil) rfl
                ·
                  replace hm := ite_F c323 hm
                  refine J.drawB [] [] ?_
                  first | refine JD.calc 0 (by kernel_rfl) rfl trivial ss_subB (q_mvv (v := .int _ _) rfl) ?_ | refine JD.calc 0 (by kernel_rfl) rfl trivial ss_subB (q_mv) ?_
                  refine JD.calc 1 (by kernel_rfl) rfl trivial ss_subB (q_neq rfl rfl) ?_
                  first | refine JD.calc 2 (by kernel_rfl) rfl trivial ss_subB (q_mvv (v := .bool _) rfl) ?_ | refine JD.calc 2 (by kernel_rfl) rfl trivial ss_subB (q_mv) ?_
                  refine JD.pass 3 (by kernel_rfl) rfl rfl (congrArg Value.bool (decide_eq_true c323)) ss_subB ?_
                  refine JD.pass 4 (by kernel_rfl) rfl rfl (congrArg Value.bool (decide_eq_true c323)) ss_subB ?_
                  refine JD.pass 5 (by kernel_rfl) rfl rfl (congrArg Value.bool (decide_eq_true c323)) ss_subB ?_
                  refine JD.pass 6 (by kernel_rfl) rfl rfl (congrArg Value.bool (decide_eq_true c323)) ss_subB ?_
                  refine JD.pass 7 (by kernel_rfl) rfl rfl (congrArg Value.bool (decide_eq_true c323)) ss_subB ?_
                  refine JD.pass 8 (by kernel_rfl) rfl rfl (congrArg Value.bool (decide_eq_true c323)) ss_subB ?_
                  refine JD.pass 9 (by kernel_rfl) rfl rfl (congrArg Value.bool (decide_eq_true c323)) ss_subB ?_
                  refine JD.pass 10 (by kernel_rfl) rfl rfl (congrArg Value.bool (decide_eq_true c323)) ss_subB ?_
                  refine JD.pass 11 (by kernel_rfl) rfl rfl (congrArg Value.bool (decide_eq_true c323)) ss_subB ?_
                  first | refine JD.calc 12 (by kernel_rfl) rfl trivial ss_subB (q_pickTv (v := .bool _) rfl (decide_eq_true c323) rfl) ?_ | refine JD.calc 12 (by kernel_rfl) rfl trivial ss_subB (q_pickT rfl (decide_eq_true c323)) ?_
                  refine JD.done (by kernel_rfl) ?_ _
                  --
                  refine J.condT rfl rfl ?_
                  refine J.seq ?_
                  refine J.region ?_
                  first | refine o_q (q_asv (v := .bool _) rfl) ?_ | refine o_q (q_as) ?_
                  refine JL.nil ?_
                  replace hm := inr_onward hm hk282
                  refine J.ret ?_
                  obtain rfl := Option.some.inj hm
                  exact ret_ok (fn := Try.f6) rfl (.tmp rfl .nil) rfl
              ·
                replace hm := forN_ge c283 hm
                unfold M.torsionlaw06_SparseMultiplies_k1 at hm
                refine J.condF rfl (decide_eq_false c283) ?_
                refine J.exit ?_
                refine J.seq ?_
                refine J.region ?_
                first | refine o_q (q_mvv (v := .bool _) rfl) ?_ | refine o_q (q_mv) ?_
                first | refine o_q (q_asv (v := .bool _) rfl) ?_ | refine o_q (q_as) ?_
                refine JL.nil ?_
                refine J.ret ?_
                obtain rfl := Option.some.inj hm
                exact ret_ok (fn := Try.f6) rfl (.tmp rfl .nil) rfl
      ·
        refine JX.effB rfl rfl trivial ?_
        refine o_al (fun b221 => ?_)
        refine JL.nil ⟨rfl, inferInstance, inferInstance, ?_⟩
        refine JD.one 1 (by kernel_rfl) ?_
        refine JX.effB rfl rfl trivial ?_
        refine o_call (sparse_Transpose_fn ⟨_, rfl, ⟨_, _, _, rfl, Sls.mono f83⟩⟩ e191) (fun v187 h188 s189 r190 => ?_)
        obtain ⟨_, rfl, p193, n194, c195, rfl, f196⟩ := r190
        refine JL.nil ⟨rfl, inferInstance, inferInstance, ?_⟩
        refine JD.one 3 (by kernel_rfl) ?_
        refine JX.effB rfl rfl trivial ?_
        refine o_call (sparse_Transpose_fn ⟨_, rfl, ⟨_, _, _, rfl, Sls.mono f61⟩⟩ e201) (fun v197 h198 s199 r200 => ?_)
        obtain ⟨_, rfl, p203, n204, c205, rfl, f206⟩ := r200
        refine JL.nil ⟨rfl, inferInstance, inferInstance, ?_⟩
        refine JD.one 4 (by kernel_rfl) ?_
        refine JX.effB rfl rfl trivial ?_
        refine o_call (sparse_Mul_fn ⟨_, rfl, ⟨_, _, _, rfl, Sls.mono f196⟩⟩ ⟨_, rfl, ⟨_, _, _, rfl, Sls.mono f206⟩⟩ e211) (fun v207 h208 s209 r210 => ?_)
        obtain ⟨v213, v214, rfl, r215, r216⟩ := r210
        obtain ⟨_, rfl, p217, n218, c219, rfl, f220⟩ := r215
        obtain rfl := (show _ = _ from r216)
        refine JL.nil ⟨rfl, inferInstance, inferInstance, ?_⟩
        refine JD.calc 5 (by kernel_rfl) rfl trivial ss_subB (q_mv) ?_
        refine JD.calc 6 (by kernel_rfl) rfl trivial ss_subB (q_ex rfl rfl) ?_
        refine JD.calc 7 (by kernel_rfl) rfl trivial ss_subB (q_ex rfl rfl) ?_
        refine JD.one 9 (by kernel_rfl) ?_
        refine JX.effB rfl rfl trivial ?_
        first | refine o_stc (vs := [.int _ _, .int _ _, .slice _ _ _]) (l' := [.int _ _, .int _ _, .slice _ _ _]) rfl rfl rfl rfl rfl inferInstance rfl rfl ?_ | refine o_stc (vs := [_, _, _]) (l' := [_, _, _]) rfl rfl rfl rfl rfl inferInstance rfl rfl ?_
        refine JL.nil ⟨rfl, inferInstance, inferInstance, ?_⟩
        first | refine JD.calc 10 (by kernel_rfl) rfl trivial ss_subB (q_asv (v := .int _ _) rfl) ?_ | refine JD.calc 10 (by kernel_rfl) rfl trivial ss_subB (q_as) ?_
        refine JD.done (by kernel_rfl) ?_ _
        --
        refine J.seq ?_
        refine J.seq ?_
        refine J.joinK (α := Bool) (fun v223 h' L' => (M.torsionlaw06_SparseMultiplies_j2 y41 y57 y79 y112) v223 = some r ∧ Sp ([(b62, row 24 [.int .i64 y57.Rows, .int .i64 y57.Cols, .slice p58 n59 c60]), (b84, row 24 [.int .i64 y79.Rows, .int .i64 y79.Cols, .slice p80 n81 c82]), (b121, row 24 [.int .i64 y112.1.Rows, .int .i64 y112.1.Cols, .slice p117 n118 c119])]) L') [(7, .bool _), (8, .pointer _), (9, .pointer _), (11, .pointer _)] ⟨rfl, rfl, rfl, rfl, trivial⟩ (fun v223 => [(152, .bool v223)]) ?_ ?_
        ·
          by_cases c355 : y162.2 = 0
          ·
            replace hm := ite_T c355 hm
            by_cases c356 : y177.2 = 0
            ·
              replace hm := ite_T c356 hm
              by_cases c357 : y212.2 = 0
              ·
                replace hm := ite_T c357 hm
                obtain ⟨y363, e362, hm⟩ := bnd_some hm
                by_cases c364 : y363 = true
                ·
                  replace hm := ite_T c364 hm
                  obtain ⟨y370, e369, hm⟩ := bnd_some hm
                  obtain ⟨y380, e379, hm⟩ := bnd_some hm
                  by_cases c381 : y380 = true
                  ·
                    replace hm := ite_T c381 hm
                    obtain ⟨y387, e386, hm⟩ := bnd_some hm
                    obtain ⟨y397, e396, hm⟩ := bnd_some hm
                    obtain ⟨y407, e406, hm⟩ := bnd_some hm
                    refine J.drawB [b171, b186, b221, b121, b62] [] ?_
                    first | refine JD.calc 0 (by kernel_rfl) rfl trivial ss_subB (q_mvv (v := .int _ _) rfl) ?_ | refine JD.calc 0 (by kernel_rfl) rfl trivial ss_subB (q_mv) ?_
                    refine JD.calc 1 (by kernel_rfl) rfl trivial ss_subB (q_neq rfl rfl) ?_
                    first | refine JD.calc 2 (by kernel_rfl) rfl trivial ss_subB (q_mvv (v := .bool _) rfl) ?_ | refine JD.calc 2 (by kernel_rfl) rfl trivial ss_subB (q_mv) ?_
                    first | refine JD.calc 3 (by kernel_rfl) rfl ⟨_, rfl, (congrArg Value.bool (decide_eq_false (fun z => z c355)))⟩ ss_subB (q_mvv (v := .int _ _) rfl) ?_ | refine JD.calc 3 (by kernel_rfl) rfl ⟨_, rfl, (congrArg Value.bool (decide_eq_false (fun z => z c355)))⟩ ss_subB (q_mv) ?_
                    refine JD.calc 4 (by kernel_rfl) rfl ⟨_, rfl, (congrArg Value.bool (decide_eq_false (fun z => z c355)))⟩ ss_subB (q_neq rfl rfl) ?_
                    first | refine JD.calc 5 (by kernel_rfl) rfl trivial ss_subB (q_pickFv (v := .bool _) rfl (decide_eq_false (fun z => z c355)) rfl) ?_ | refine JD.calc 5 (by kernel_rfl) rfl trivial ss_subB (q_pickF rfl (decide_eq_false (fun z => z c355))) ?_
                    first | refine JD.calc 6 (by kernel_rfl) rfl trivial ss_subB (q_mvv (v := .bool _) rfl) ?_ | refine JD.calc 6 (by kernel_rfl) rfl trivial ss_subB (q_mv) ?_
                    first | refine JD.calc 7 (by kernel_rfl) rfl ⟨_, rfl, (congrArg Value.bool (decide_eq_false (fun z => z c356)))⟩ ss_subB (q_mvv (v := .int _ _) rfl) ?_ | refine JD.calc 7 (by kernel_rfl) rfl ⟨_, rfl, (congrArg Value.bool (decide_eq_false (fun z => z c356)))⟩ ss_subB (q_mv) ?_
                    refine JD.calc 8 (by kernel_rfl) rfl ⟨_, rfl, (congrArg Value.bool (decide_eq_false (fun z => z c356)))⟩ ss_subB (q_neq rfl rfl) ?_
                    first | refine JD.calc 9 (by kernel_rfl) rfl trivial ss_subB (q_pickFv (v := .bool _) rfl (decide_eq_false (fun z => z c356)) rfl) ?_ | refine JD.calc 9 (by kernel_rfl) rfl trivial ss_subB (q_pickF rfl (decide_eq_false (fun z => z c356))) ?_
                    first | refine JD.calc 10 (by kernel_rfl) rfl trivial ss_subB (q_mvv (v := .bool _) rfl) ?_ | refine JD.calc 10 (by kernel_rfl) rfl trivial ss_subB (q_mv) ?_
                    refine JD.loadB 11 (by kernel_rfl) rfl ⟨_, rfl, (congrArg Value.bool (decide_eq_false (fun z => z c357)))⟩ (q_lda (vs := [_, _, _]) rfl inferInstance ⟨rfl, rfl, rfl, trivial⟩) ?_
                    refine JD.loadB 12 (by kernel_rfl) rfl ⟨_, rfl, (congrArg Value.bool (decide_eq_false (fun z => z c357)))⟩ (q_lda (vs := [_, _, _]) rfl inferInstance ⟨rfl, rfl, rfl, trivial⟩) ?_
                    refine JD.one 13 (by kernel_rfl) ?_
                    refine JX.effB rfl rfl ⟨_, rfl, (congrArg Value.bool (decide_eq_false (fun z => z c357)))⟩ ?_
                    refine o_call (torsionref06_Equal_fn ⟨_, rfl, ⟨_, _, _, rfl, Sls.mono f170⟩⟩ ⟨_, rfl, ⟨_, _, _, rfl, Sls.mono f185⟩⟩ e362) (fun v358 h359 s360 r361 => ?_)
                    obtain rfl := (show _ = _ from r361)
                    refine JL.nil ⟨rfl, inferInstance, inferInstance, ?_⟩
                    refine JD.calc 14 (by kernel_rfl) rfl ⟨_, rfl, (congrArg Value.bool (decide_eq_false (fun z => z c357)))⟩ ss_subB (q_not rfl) ?_
                    first | refine JD.calc 15 (by kernel_rfl) rfl trivial ss_subB (q_pickFv (v := .bool _) rfl (decide_eq_false (fun z => z c357)) rfl) ?_ | refine JD.calc 15 (by kernel_rfl) rfl trivial ss_subB (q_pickF rfl (decide_eq_false (fun z => z c357))) ?_
                    first | refine JD.calc 16 (by kernel_rfl) rfl trivial ss_subB (q_mvv (v := .bool _) rfl) ?_ | refine JD.calc 16 (by kernel_rfl) rfl trivial ss_subB (q_mv) ?_
                    refine JD.loadB 17 (by kernel_rfl) rfl ⟨_, rfl, (congrArg Value.bool (congrArg Bool.not (show y363 = true from c364)))⟩ (q_lda (vs := [_, _, _]) rfl inferInstance ⟨rfl, rfl, rfl, trivial⟩) ?_
                    refine JD.loadB 18 (by kernel_rfl) rfl ⟨_, rfl, (congrArg Value.bool (congrArg Bool.not (show y363 = true from c364)))⟩ (q_lda (vs := [_, _, _]) rfl inferInstance ⟨rfl, rfl, rfl, trivial⟩) ?_
                    refine JD.one 19 (by kernel_rfl) ?_
                    refine JX.effB rfl rfl ⟨_, rfl, (congrArg Value.bool (congrArg Bool.not (show y363 = true from c364)))⟩ ?_
                    refine o_call (sparse_Transpose_fn ⟨_, rfl, ⟨_, _, _, rfl, Sls.mono f120⟩⟩ e369) (fun v365 h366 s367 r368 => ?_)
                    obtain ⟨_, rfl, p371, n372, c373, rfl, f374⟩ := r368
                    refine JL.nil ⟨rfl, inferInstance, inferInstance, ?_⟩
                    refine JD.one 20 (by kernel_rfl) ?_
                    refine JX.effB rfl rfl ⟨_, rfl, (congrArg Value.bool (congrArg Bool.not (show y363 = true from c364)))⟩ ?_
                    refine o_call (torsionref06_Equal_fn ⟨_, rfl, ⟨_, _, _, rfl, Sls.mono f220⟩⟩ ⟨_, rfl, ⟨_, _, _, rfl, Sls.mono f374⟩⟩ e379) (fun v375 h376 s377 r378 => ?_)
                    obtain rfl := (show _ = _ from r378)
                    refine JL.nil ⟨rfl, inferInstance, inferInstance, ?_⟩
                    refine JD.calc 21 (by kernel_rfl) rfl ⟨_, rfl, (congrArg Value.bool (congrArg Bool.not (show y363 = true from c364)))⟩ ss_subB (q_not rfl) ?_
                    first | refine JD.calc 22 (by kernel_rfl) rfl trivial ss_subB (q_pickFv (v := .bool _) rfl (congrArg Bool.not (show y363 = true from c364)) rfl) ?_ | refine JD.calc 22 (by kernel_rfl) rfl trivial ss_subB (q_pickF rfl (congrArg Bool.not (show y363 = true from c364))) ?_
                    first | refine JD.calc 23 (by kernel_rfl) rfl trivial ss_subB (q_mvv (v := .bool _) rfl) ?_ | refine JD.calc 23 (by kernel_rfl) rfl trivial ss_subB (q_mv) ?_
                    refine JD.loadB 24 (by kernel_rfl) rfl ⟨_, rfl, (congrArg Value.bool (congrArg Bool.not (show y380 = true from c381)))⟩ (q_lda (vs := [_, _, _]) rfl inferInstance ⟨rfl, rfl, rfl, trivial⟩) ?_
                    refine JD.loadB 27 (by kernel_rfl) rfl ⟨_, rfl, (congrArg Value.bool (congrArg Bool.not (show y380 = true from c381)))⟩ (q_lda (vs := [_, _, _]) rfl inferInstance ⟨rfl, rfl, rfl, trivial⟩) ?_
                    refine JD.one 25 (by kernel_rfl) ?_
                    refine JX.effB rfl rfl ⟨_, rfl, (congrArg Value.bool (congrArg Bool.not (show y380 = true from c381)))⟩ ?_
                    refine o_call (sparse_Transpose_fn ⟨_, rfl, ⟨_, _, _, rfl, Sls.mono f61⟩⟩ e386) (fun v382 h383 s384 r385 => ?_)
                    obtain ⟨_, rfl, p388, n389, c390, rfl, f391⟩ := r385
                    refine JL.nil ⟨rfl, inferInstance, inferInstance, ?_⟩
                    refine JD.one 26 (by kernel_rfl) ?_
                    refine JX.effB rfl rfl ⟨_, rfl, (congrArg Value.bool (congrArg Bool.not (show y380 = true from c381)))⟩ ?_
                    refine o_call (sparse_Transpose_fn ⟨_, rfl, ⟨_, _, _, rfl, Sls.mono f391⟩⟩ e396) (fun v392 h393 s394 r395 => ?_)
                    obtain ⟨_, rfl, p398, n399, c400, rfl, f401⟩ := r395
                    refine JL.nil ⟨rfl, inferInstance, inferInstance, ?_⟩
                    refine JD.one 28 (by kernel_rfl) ?_
                    refine JX.effB rfl rfl ⟨_, rfl, (congrArg Value.bool (congrArg Bool.not (show y380 = true from c381)))⟩ ?_
                    refine o_call (torsionref06_Equal_fn ⟨_, rfl, ⟨_, _, _, rfl, Sls.mono f401⟩⟩ ⟨_, rfl, ⟨_, _, _, rfl, Sls.mono f61⟩⟩ e406) (fun v402 h403 s404 r405 => ?_)
                    obtain rfl := (show _ = _ from r405)
                    refine JL.nil ⟨rfl, inferInstance, inferInstance, ?_⟩
                    refine JD.calc 29 (by kernel_rfl) rfl ⟨_, rfl, (congrArg Value.bool (congrArg Bool.not (show y380 = true from c381)))⟩ ss_subB (q_not rfl) ?_
                    first | refine JD.calc 30 (by kernel_rfl) rfl trivial ss_subB (q_pickFv (v := .bool _) rfl (congrArg Bool.not (show y380 = true from c381)) rfl) ?_ | refine JD.calc 30 (by kernel_rfl) rfl trivial ss_subB (q_pickF rfl (congrArg Bool.not (show y380 = true from c381))) ?_
                    refine JD.done (by kernel_rfl) ?_ _
                    --
                    exact ⟨(!y407), rfl, ⟨rfl, rfl, rfl, rfl, trivial⟩, ⟨rfl, trivial⟩, ⟨hm, inferInstance⟩, inferInstance⟩
                  ·
                    replace hm := ite_F c381 hm
                    refine J.drawB [b171, b186, b221, b121] [] ?_
                    first | refine JD.calc 0 (by kernel_rfl) rfl trivial ss_subB (q_mvv (v := .int _ _) rfl) ?_ | refine JD.calc 0 (by kernel_rfl) rfl trivial ss_subB (q_mv) ?_
                    refine JD.calc 1 (by kernel_rfl) rfl trivial ss_subB (q_neq rfl rfl) ?_
                    first | refine JD.calc 2 (by kernel_rfl) rfl trivial ss_subB (q_mvv (v := .bool _) rfl) ?_ | refine JD.calc 2 (by kernel_rfl) rfl trivial ss_subB (q_mv) ?_
                    first | refine JD.calc 3 (by kernel_rfl) rfl ⟨_, rfl, (congrArg Value.bool (decide_eq_false (fun z => z c355)))⟩ ss_subB (q_mvv (v := .int _ _) rfl) ?_ | refine JD.calc 3 (by kernel_rfl) rfl ⟨_, rfl, (congrArg Value.bool (decide_eq_false (fun z => z c355)))⟩ ss_subB (q_mv) ?_
                    refine JD.calc 4 (by kernel_rfl) rfl ⟨_, rfl, (congrArg Value.bool (decide_eq_false (fun z => z c355)))⟩ ss_subB (q_neq rfl rfl) ?_
                    first | refine JD.calc 5 (by kernel_rfl) rfl trivial ss_subB (q_pickFv (v := .bool _) rfl (decide_eq_false (fun z => z c355)) rfl) ?_ | refine JD.calc 5 (by kernel_rfl) rfl trivial ss_subB (q_pickF rfl (decide_eq_false (fun z => z c355))) ?_
                    first | refine JD.calc 6 (by kernel_rfl) rfl trivial ss_subB (q_mvv (v := .bool _) rfl) ?_ | refine JD.calc 6 (by kernel_rfl) rfl trivial ss_subB (q_mv) ?_
                    first | refine JD.calc 7 (by kernel_rfl) rfl ⟨_, rfl, (congrArg Value.bool (decide_eq_false (fun z => z c356)))⟩ ss_subB (q_mvv (v := .int _ _) rfl) ?_ | refine JD.calc 7 (by kernel_rfl) rfl ⟨_, rfl, (congrArg Value.bool (decide_eq_false (fun z => z c356)))⟩ ss_subB (q_mv) ?_
                    refine JD.calc 8 (by kernel_rfl) rfl ⟨_, rfl, (congrArg Value.bool (decide_eq_false (fun z => z c356)))⟩ ss_subB (q_neq rfl rfl) ?_
                    first | refine JD.calc 9 (by kernel_rfl) rfl trivial ss_subB (q_pickFv (v := .bool _) rfl (decide_eq_false (fun z => z c356)) rfl) ?_ | refine JD.calc 9 (by kernel_rfl) rfl trivial ss_subB (q_pickF rfl (decide_eq_false (fun z => z c356))) ?_
                    first | refine JD.calc 10 (by kernel_rfl) rfl trivial ss_subB (q_mvv (v := .bool _) rfl) ?_ | refine JD.calc 10 (by kernel_rfl) rfl trivial ss_subB (q_mv) ?_
                    refine JD.loadB 11 (by kernel_rfl) rfl ⟨_, rfl, (congrArg Value.bool (decide_eq_false (fun z => z c357)))⟩ (q_lda (vs := [_, _, _]) rfl inferInstance ⟨rfl, rfl, rfl, trivial⟩) ?_
                    refine JD.loadB 12 (by kernel_rfl) rfl ⟨_, rfl, (congrArg Value.bool (decide_eq_false (fun z => z c357)))⟩ (q_lda (vs := [_, _, _]) rfl inferInstance ⟨rfl, rfl, rfl, trivial⟩) ?_
                    refine JD.one 13 (by kernel_rfl) ?_
                    refine JX.effB rfl rfl ⟨_, rfl, (congrArg Value.bool (decide_eq_false (fun z => z c357)))⟩ ?_
                    refine o_call (torsionref06_Equal_fn ⟨_, rfl, ⟨_, _, _, rfl, Sls.mono f170⟩⟩ ⟨_, rfl, ⟨_, _, _, rfl, Sls.mono f185⟩⟩ e362) (fun v358 h359 s360 r361 => ?_)
                    obtain rfl := (show _ = _ from r361)
                    refine JL.nil ⟨rfl, inferInstance, inferInstance, ?_⟩
                    refine JD.calc 14 (by kernel_rfl) rfl ⟨_, rfl, (congrArg Value.bool (decide_eq_false (fun z => z c357)))⟩ ss_subB (q_not rfl) ?_
                    first | refine JD.calc 15 (by kernel_rfl) rfl trivial ss_subB (q_pickFv (v := .bool _) rfl (decide_eq_false (fun z => z c357)) rfl) ?_ | refine JD.calc 15 (by kernel_rfl) rfl trivial ss_subB (q_pickF rfl (decide_eq_false (fun z => z c357))) ?_
                    first | refine JD.calc 16 (by kernel_rfl) rfl trivial ss_subB (q_mvv (v := .bool _) rfl) ?_ | refine JD.calc 16 (by kernel_rfl) rfl trivial ss_subB (q_mv) ?_
                    refine JD.loadB 17 (by kernel_rfl) rfl ⟨_, rfl, (congrArg Value.bool (congrArg Bool.not (show y363 = true from c364)))⟩ (q_lda (vs := [_, _, _]) rfl inferInstance ⟨rfl, rfl, rfl, trivial⟩) ?_
                    refine JD.loadB 18 (by kernel_rfl) rfl ⟨_, rfl, (congrArg Value.bool (congrArg Bool.not (show y363 = true from c364)))⟩ (q_lda (vs := [_, _, _]) rfl inferInstance ⟨rfl, rfl, rfl, trivial⟩) ?_
                    refine JD.one 19 (by kernel_rfl) ?_
                    refine JX.effB rfl rfl ⟨_, rfl, (congrArg Value.bool (congrArg Bool.not (show y363 = true from c364)))⟩ ?_
                    refine o_call (sparse_Transpose_fn ⟨_, rfl, ⟨_, _, _, rfl, Sls.mono f120⟩⟩ e369) (fun v365 h366 s367 r368 => ?_)
                    obtain ⟨_, rfl, p371, n372, c373, rfl, f374⟩ := r368
                    refine JL.nil ⟨rfl, inferInstance, inferInstance, ?_⟩
                    refine JD.one 20 (by kernel_rfl) ?_
                    refine JX.effB rfl rfl ⟨_, rfl, (congrArg Value.bool (congrArg Bool.not (show y363 = true from c364)))⟩ ?_
                    refine o_call (torsionref06_Equal_fn ⟨_, rfl, ⟨_, _, _, rfl, Sls.mono f220⟩⟩ ⟨_, rfl, ⟨_, _, _, rfl, Sls.mono f374⟩⟩ e379) (fun v375 h376 s377 r378 => ?_)
                    obtain rfl := (show _ = _ from r378)
                    refine JL.nil ⟨rfl, inferInstance, inferInstance, ?_⟩
                    refine JD.calc 21 (by kernel_rfl) rfl ⟨_, rfl, (congrArg Value.bool (congrArg Bool.not (show y363 = true from c364)))⟩ ss_subB (q_not rfl) ?_
                    first | refine JD.calc 22 (by kernel_rfl) rfl trivial ss_subB (q_pickFv (v := .bool _) rfl (congrArg Bool.not (show y363 = true from c364)) rfl) ?_ | refine JD.calc 22 (by kernel_rfl) rfl trivial ss_subB (q_pickF rfl (congrArg Bool.not (show y363 = true from c364))) ?_
                    first | refine JD.calc 23 (by kernel_rfl) rfl trivial ss_subB (q_mvv (v := .bool _) rfl) ?_ | refine JD.calc 23 (by kernel_rfl) rfl trivial ss_subB (q_mv) ?_
                    refine JD.pass 24 (by kernel_rfl) rfl rfl (congrArg Value.bool (congrArg Bool.not (show y380 = false from (eq_false_of_ne_true c381)))) ss_subB ?_
                    refine JD.pass 25 (by kernel_rfl) rfl rfl (congrArg Value.bool (congrArg Bool.not (show y380 = false from (eq_false_of_ne_true c381)))) ss_subB ?_
                    refine JD.pass 26 (by kernel_rfl) rfl rfl (congrArg Value.bool (congrArg Bool.not (show y380 = false from (eq_false_of_ne_true c381)))) ss_subB ?_
                    refine JD.pass 27 (by kernel_rfl) rfl rfl (congrArg Value.bool (congrArg Bool.not (show y380 = false from (eq_false_of_ne_true c381)))) ss_subB ?_
                    refine JD.pass 28 (by kernel_rfl) rfl rfl (congrArg Value.bool (congrArg Bool.not (show y380 = false from (eq_false_of_ne_true c381)))) ss_subB ?_
                    refine JD.pass 29 (by kernel_rfl) rfl rfl (congrArg Value.bool (congrArg Bool.not (show y380 = false from (eq_false_of_ne_true c381)))) ss_subB ?_
                    first | refine JD.calc 30 (by kernel_rfl) rfl trivial ss_subB (q_pickTv (v := .bool _) rfl (congrArg Bool.not (show y380 = false from (eq_false_of_ne_true c381))) rfl) ?_ | refine JD.calc 30 (by kernel_rfl) rfl trivial ss_subB (q_pickT rfl (congrArg Bool.not (show y380 = false from (eq_false_of_ne_true c381)))) ?_
                    refine JD.done (by kernel_rfl) ?_ _
                    --
                    exact ⟨true, rfl, ⟨rfl, rfl, rfl, rfl, trivial⟩, ⟨rfl, trivial⟩, ⟨hm, inferInstance⟩, inferInstance⟩
                ·
                  replace hm := ite_F c364 hm
                  refine J.drawB [b171, b186] [] ?_
                  first | refine JD.calc 0 (by kernel_rfl) rfl trivial ss_subB (q_mvv (v := .int _ _) rfl) ?_ | refine JD.calc 0 (by kernel_rfl) rfl trivial ss_subB (q_mv) ?_
                  refine JD.calc 1 (by kernel_rfl) rfl trivial ss_subB (q_neq rfl rfl) ?_
                  first | refine JD.calc 2 (by kernel_rfl) rfl trivial ss_subB (q_mvv (v := .bool _) rfl) ?_ | refine JD.calc 2 (by kernel_rfl) rfl trivial ss_subB (q_mv) ?_
                  first | refine JD.calc 3 (by kernel_rfl) rfl ⟨_, rfl, (congrArg Value.bool (decide_eq_false (fun z => z c355)))⟩ ss_subB (q_mvv (v := .int _ _) rfl) ?_ | refine JD.calc 3 (by kernel_rfl) rfl ⟨_, rfl, (congrArg Value.bool (decide_eq_false (fun z => z c355)))⟩ ss_subB (q_mv) ?_
                  refine JD.calc 4 (by kernel_rfl) rfl ⟨_, rfl, (congrArg Value.bool (decide_eq_false (fun z => z c355)))⟩ ss_subB (q_neq rfl rfl) ?_
                  first | refine JD.calc 5 (by kernel_rfl) rfl trivial ss_subB (q_pickFv (v := .bool _) rfl (decide_eq_false (fun z => z c355)) rfl) ?_ | refine JD.calc 5 (by kernel_rfl) rfl trivial ss_subB (q_pickF rfl (decide_eq_false (fun z => z c355))) ?_
                  first | refine JD.calc 6 (by kernel_rfl) rfl trivial ss_subB (q_mvv (v := .bool _) rfl) ?_ | refine JD.calc 6 (by kernel_rfl) rfl trivial ss_subB (q_mv) ?_
                  first | refine JD.calc 7 (by kernel_rfl) rfl ⟨_, rfl, (congrArg Value.bool (decide_eq_false (fun z => z c356)))⟩ ss_subB (q_mvv (v := .int _ _) rfl) ?_ | refine JD.calc 7 (by kernel_rfl) rfl ⟨_, rfl, (congrArg Value.bool (decide_eq_false (fun z => z c356)))⟩ ss_subB (q_mv) ?_
                  refine JD.calc 8 (by kernel_rfl) rfl ⟨_, rfl, (congrArg Value.bool (decide_eq_false (fun z => z c356)))⟩ ss_subB (q_neq rfl rfl) ?_
                  first | refine JD.calc 9 (by kernel_rfl) rfl trivial ss_subB (q_pickFv (v := .bool _) rfl (decide_eq_false (fun z => z c356)) rfl) ?_ | refine JD.calc 9 (by kernel_rfl) rfl trivial ss_subB (q_pickF rfl (decide_eq_false (fun z => z c356))) ?_
                  first | refine JD.calc 10 (by kernel_rfl) rfl trivial ss_subB (q_mvv (v := .bool _) rfl) ?_ | refine JD.calc 10 (by kernel_rfl) rfl trivial ss_subB (q_mv) ?_
                  refine JD.loadB 11 (by kernel_rfl) rfl ⟨_, rfl, (congrArg Value.bool (decide_eq_false (fun z => z c357)))⟩ (q_lda (vs := [_, _, _]) rfl inferInstance ⟨rfl, rfl, rfl, trivial⟩) ?_
                  refine JD.loadB 12 (by kernel_rfl) rfl ⟨_, rfl, (congrArg Value.bool (decide_eq_false (fun z => z c357)))⟩ (q_lda (vs := [_, _, _]) rfl inferInstance ⟨rfl, rfl, rfl, trivial⟩) ?_
                  refine JD.one 13 (by kernel_rfl) ?_
                  refine JX.effB rfl rfl ⟨_, rfl, (congrArg Value.bool (decide_eq_false (fun z => z c357)))⟩ ?_
                  refine o_call (torsionref06_Equal_fn ⟨_, rfl, ⟨_, _, _, rfl, Sls.mono f170⟩⟩ ⟨_, rfl, ⟨_, _, _, rfl, Sls.mono f185⟩⟩ e362) (fun v358 h359 s360 r361 => ?_)
                  obtain rfl := (show _ = _ from r361)
                  refine JL.nil ⟨rfl, inferInstance, inferInstance, ?_⟩
                  refine JD.calc 14 (by kernel_rfl) rfl ⟨_, rfl, (congrArg Value.bool (decide_eq_false (fun z => z c357)))⟩ ss_subB (q_not rfl) ?_
                  first | refine JD.calc 15 (by kernel_rfl) rfl trivial ss_subB (q_pickFv (v := .bool _) rfl (decide_eq_false (fun z => z c357)) rfl) ?_ | refine JD.calc 15 (by kernel_rfl) rfl trivial ss_subB (q_pickF rfl (decide_eq_false (fun z => z c357))) ?_
                  first | refine JD.calc 16 (by kernel_rfl) rfl trivial ss_subB (q_mvv (v := .bool _) rfl) ?_ | refine JD.calc 16 (by kernel_rfl) rfl trivial ss_subB (q_mv) ?_
                  refine JD.pass 17 (by kernel_rfl) rfl rfl (congrArg Value.bool (congrArg Bool.not (show y363 = false from (eq_false_of_ne_true c364)))) ss_subB ?_
                  refine JD.pass 18 (by kernel_rfl) rfl rfl (congrArg Value.bool (congrArg Bool.not (show y363 = false from (eq_false_of_ne_true c364)))) ss_subB ?_
                  refine JD.pass 19 (by kernel_rfl) rfl rfl (congrArg Value.bool (congrArg Bool.not (show y363 = false from (eq_false_of_ne_true c364)))) ss_subB ?_
                  refine JD.pass 20 (by kernel_rfl) rfl rfl (congrArg Value.bool (congrArg Bool.not (show y363 = false from (eq_false_of_ne_true c364)))) ss_subB ?_
                  refine JD.pass 21 (by kernel_rfl) rfl rfl (congrArg Value.bool (congrArg Bool.not (show y363 = false from (eq_false_of_ne_true c364)))) ss_subB ?_
                  first | refine JD.calc 22 (by kernel_rfl) rfl trivial ss_subB (q_pickTv (v := .bool _) rfl (congrArg Bool.not (show y363 = false from (eq_false_of_ne_true c364))) rfl) ?_ | refine JD.calc 22 (by kernel_rfl) rfl trivial ss_subB (q_pickT rfl (congrArg Bool.not (show y363 = false from (eq_false_of_ne_true c364)))) ?_
                  first | refine JD.calc 23 (by kernel_rfl) rfl trivial ss_subB (q_mvv (v := .bool _) rfl) ?_ | refine JD.calc 23 (by kernel_rfl) rfl trivial ss_subB (q_mv) ?_
                  refine JD.pass 24 (by kernel_rfl) rfl rfl rfl ss_subB ?_
                  refine JD.pass 25 (by kernel_rfl) rfl rfl rfl ss_subB ?_
                  refine JD.pass 26 (by kernel_rfl) rfl rfl rfl ss_subB ?_
                  refine JD.pass 27 (by kernel_rfl) rfl rfl rfl ss_subB ?_
                  refine JD.pass 28 (by kernel_rfl) rfl rfl rfl ss_subB ?_
                  refine JD.pass 29 (by kernel_rfl) rfl rfl rfl ss_subB ?_
                  first | refine JD.calc 30 (by kernel_rfl) rfl trivial ss_subB (q_pickTv (v := .bool _) rfl rfl rfl) ?_ | refine JD.calc 30 (by kernel_rfl) rfl trivial ss_subB (q_pickT rfl rfl) ?_
                  refine JD.done (by kernel_rfl) ?_ _
                  --
                  exact ⟨true, rfl, ⟨rfl, rfl, rfl, rfl, trivial⟩, ⟨rfl, trivial⟩, ⟨hm, inferInstance⟩, inferInstance⟩
              ·
                replace hm := ite_F c357 hm
                refine J.drawB [] [] ?_
                first | refine JD.calc 0 (by kernel_rfl) rfl trivial ss_subB (q_mvv (v := .int _ _) rfl) ?_ | refine JD.calc 0 (by kernel_rfl) rfl trivial ss_subB (q_mv) ?_
                refine JD.calc 1 (by kernel_rfl) rfl trivial ss_subB (q_neq rfl rfl) ?_
                first | refine JD.calc 2 (by kernel_rfl) rfl trivial ss_subB (q_mvv (v := .bool _) rfl) ?_ | refine JD.calc 2 (by kernel_rfl) rfl trivial ss_subB (q_mv) ?_
                first | refine JD.calc 3 (by kernel_rfl) rfl ⟨_, rfl, (congrArg Value.bool (decide_eq_false (fun z => z c355)))⟩ ss_subB (q_mvv (v := .int _ _) rfl) ?_ | refine JD.calc 3 (by kernel_rfl) rfl ⟨_, rfl, (congrArg Value.bool (decide_eq_false (fun z => z c355)))⟩ ss_subB (q_mv) ?_
                refine JD.calc 4 (by kernel_rfl) rfl ⟨_, rfl, (congrArg Value.bool (decide_eq_false (fun z => z c355)))⟩ ss_subB (q_neq rfl rfl) ?_
                first | refine JD.calc 5 (by kernel_rfl) rfl trivial ss_subB (q_pickFv (v := .bool _) rfl (decide_eq_false (fun z => z c355)) rfl) ?_ | refine JD.calc 5 (by kernel_rfl) rfl trivial ss_subB (q_pickF rfl (decide_eq_false (fun z => z c355))) ?_
                first | refine JD.calc 6 (by kernel_rfl) rfl trivial ss_subB (q_mvv (v := .bool _) rfl) ?_ | refine JD.calc 6 (by kernel_rfl) rfl trivial ss_subB (q_mv) ?_
                first | refine JD.calc 7 (by kernel_rfl) rfl ⟨_, rfl, (congrArg Value.bool (decide_eq_false (fun z => z c356)))⟩ ss_subB (q_mvv (v := .int _ _) rfl) ?_ | refine JD.calc 7 (by kernel_rfl) rfl ⟨_, rfl, (congrArg Value.bool (decide_eq_false (fun z => z c356)))⟩ ss_subB (q_mv) ?_
                refine JD.calc 8 (by kernel_rfl) rfl ⟨_, rfl, (congrArg Value.bool (decide_eq_false (fun z => z c356)))⟩ ss_subB (q_neq rfl rfl) ?_
                first | refine JD.calc 9 (by kernel_rfl) rfl trivial ss_subB (q_pickFv (v := .bool _) rfl (decide_eq_false (fun z => z c356)) rfl) ?_ | refine JD.calc 9 (by kernel_rfl) rfl trivial ss_subB (q_pickF rfl (decide_eq_false (fun z => z c356))) ?_
                first | refine JD.calc 10 (by kernel_rfl) rfl trivial ss_subB (q_mvv (v := .bool _) rfl) ?_ | refine JD.calc 10 (by kernel_rfl) rfl trivial ss_subB (q_mv) ?_
                refine JD.pass 11 (by kernel_rfl) rfl rfl (congrArg Value.bool (decide_eq_true c357)) ss_subB ?_
                refine JD.pass 12 (by kernel_rfl) rfl rfl (congrArg Value.bool (decide_eq_true c357)) ss_subB ?_
                refine JD.pass 13 (by kernel_rfl) rfl rfl (congrArg Value.bool (decide_eq_true c357)) ss_subB ?_
                refine JD.pass 14 (by kernel_rfl) rfl rfl (congrArg Value.bool (decide_eq_true c357)) ss_subB ?_
                first | refine JD.calc 15 (by kernel_rfl) rfl trivial ss_subB (q_pickTv (v := .bool _) rfl (decide_eq_true c357) rfl) ?_ | refine JD.calc 15 (by kernel_rfl) rfl trivial ss_subB (q_pickT rfl (decide_eq_true c357)) ?_
                first | refine JD.calc 16 (by kernel_rfl) rfl trivial ss_subB (q_mvv (v := .bool _) rfl) ?_ | refine JD.calc 16 (by kernel_rfl) rfl trivial ss_subB (q_mv) ?_
                refine JD.pass 17 (by kernel_rfl) rfl rfl rfl ss_subB ?_
                refine JD.pass 18 (by kernel_rfl) rfl rfl rfl ss_subB ?_
                refine JD.pass 19 (by kernel_rfl) rfl rfl rfl ss_subB ?_
                refine JD.pass 20 (by kernel_rfl) rfl rfl rfl ss_subB ?_
                refine JD.pass 21 (by kernel_rfl) rfl rfl rfl ss_subB ?_
                first | refine JD.calc 22 (by kernel_rfl) rfl trivial ss_subB (q_pickTv (v := .bool _) rfl rfl rfl) ?_ | refine JD.calc 22 (by kernel_rfl) rfl trivial ss_subB (q_pickT rfl rfl) ?_
                first | refine JD.calc 23 (by kernel_rfl) rfl trivial ss_subB (q_mvv (v := .bool _) rfl) ?_ | refine JD.calc 23 (by kernel_rfl) rfl trivial ss_subB (q_mv) ?_
                refine JD.pass 24 (by kernel_rfl) rfl rfl rfl ss_subB ?_
                refine JD.pass 25 (by kernel_rfl) rfl rfl rfl ss_subB ?_
                refine JD.pass 26 (by kernel_rfl) rfl rfl rfl ss_subB ?_
                refine JD.pass 27 (by kernel_rfl) rfl rfl rfl ss_subB ?_
                refine JD.pass 28 (by kernel_rfl) rfl rfl rfl ss_subB ?_
                refine JD.pass 29 (by kernel_rfl) rfl rfl rfl ss_subB ?_
                first | refine JD.calc 30 (by kernel_rfl) rfl trivial ss_subB (q_pickTv (v := .bool _) rfl rfl rfl) ?_ | refine JD.calc 30 (by kernel_rfl) rfl trivial ss_subB (q_pickT rfl rfl) ?_
                refine JD.done (by kernel_rfl) ?_ _
                --
                exact ⟨true, rfl, ⟨rfl, rfl, rfl, rfl, trivial⟩, ⟨rfl, trivial⟩, ⟨hm, inferInstance⟩, inferInstance⟩
            ·
              replace hm := ite_F c356 hm
              refine J.drawB [] [] ?_
              first | refine JD.calc 0 (by kernel_rfl) rfl trivial ss_subB (q_mvv (v := .int _ _) rfl) ?_ | refine JD.calc 0 (by kernel_rfl) rfl trivial ss_subB (q_mv) ?_
              refine JD.calc 1 (by kernel_rfl) rfl trivial ss_subB (q_neq rfl rfl) ?_
              first | refine JD.calc 2 (by kernel_rfl) rfl trivial ss_subB (q_mvv (v := .bool _) rfl) ?_ | refine JD.calc 2 (by kernel_rfl) rfl trivial ss_subB (q_mv) ?_
              first | refine JD.calc 3 (by kernel_rfl) rfl ⟨_, rfl, (congrArg Value.bool (decide_eq_false (fun z => z c355)))⟩ ss_subB (q_mvv (v := .int _ _) rfl) ?_ | refine JD.calc 3 (by kernel_rfl) rfl ⟨_, rfl, (congrArg Value.bool (decide_eq_false (fun z => z c355)))⟩ ss_subB (q_mv) ?_
              refine JD.calc 4 (by kernel_rfl) rfl ⟨_, rfl, (congrArg Value.bool (decide_eq_false (fun z => z c355)))⟩ ss_subB (q_neq rfl rfl) ?_
              first | refine JD.calc 5 (by kernel_rfl) rfl trivial ss_subB (q_pickFv (v := .bool _) rfl (decide_eq_false (fun z => z c355)) rfl) ?_ | refine JD.calc 5 (by kernel_rfl) rfl trivial ss_subB (q_pickF rfl (decide_eq_false (fun z => z c355))) ?_
              first | refine JD.calc 6 (by kernel_rfl) rfl trivial ss_subB (q_mvv (v := .bool _) rfl) ?_ | refine JD.calc 6 (by kernel_rfl) rfl trivial ss_subB (q_mv) ?_
              refine JD.pass 7 (by kernel_rfl) rfl rfl (congrArg Value.bool (decide_eq_true c356)) ss_subB ?_
              refine JD.pass 8 (by kernel_rfl) rfl rfl (congrArg Value.bool (decide_eq_true c356)) ss_subB ?_
              first | refine JD.calc 9 (by kernel_rfl) rfl trivial ss_subB (q_pickTv (v := .bool _) rfl (decide_eq_true c356) rfl) ?_ | refine JD.calc 9 (by kernel_rfl) rfl trivial ss_subB (q_pickT rfl (decide_eq_true c356)) ?_
              first | refine JD.calc 10 (by kernel_rfl) rfl trivial ss_subB (q_mvv (v := .bool _) rfl) ?_ | refine JD.calc 10 (by kernel_rfl) rfl trivial ss_subB (q_mv) ?_
              refine JD.pass 11 (by kernel_rfl) rfl rfl rfl ss_subB ?_
              refine JD.pass 12 (by kernel_rfl) rfl rfl rfl ss_subB ?_
              refine JD.pass 13 (by kernel_rfl) rfl rfl rfl ss_subB ?_
              refine JD.pass 14 (by kernel_rfl) rfl rfl rfl ss_subB ?_
              first | refine JD.calc 15 (by kernel_rfl) rfl trivial ss_subB (q_pickTv (v := .bool _) rfl rfl rfl) ?_ | refine JD.calc 15 (by kernel_rfl) rfl trivial ss_subB (q_pickT rfl rfl) ?_
              first | refine JD.calc 16 (by kernel_rfl) rfl trivial ss_subB (q_mvv (v := .bool _) rfl) ?_ | refine JD.calc 16 (by kernel_rfl) rfl trivial ss_subB (q_mv) ?_
              refine JD.pass 17 (by kernel_rfl) rfl rfl rfl ss_subB ?_
              refine JD.pass 18 (by kernel_rfl) rfl rfl rfl ss_subB ?_
              refine JD.pass 19 (by kernel_rfl) rfl rfl rfl ss_subB ?_
              refine JD.pass 20 (by kernel_rfl) rfl rfl rfl ss_subB ?_
              refine JD.pass 21 (by kernel_rfl) rfl rfl rfl ss_subB ?_
              first | refine JD.calc 22 (by kernel_rfl) rfl trivial ss_subB (q_pickTv (v := .bool _) rfl rfl rfl) ?_ | refine JD.calc 22 (by kernel_rfl) rfl trivial ss_subB (q_pickT rfl rfl) ?_
              first | refine JD.calc 23 (by kernel_rfl) rfl trivial ss_subB (q_mvv (v := .bool _) rfl) ?_ | refine JD.calc 23 (by kernel_rfl) rfl trivial ss_subB (q_mv) ?_
              refine JD.pass 24 (by kernel_rfl) rfl rfl rfl ss_subB ?_
              refine JD.pass 25 (by kernel_rfl) rfl rfl rfl ss_subB ?_
              refine JD.pass 26 (by kernel_rfl) rfl rfl rfl ss_subB ?_
              refine JD.pass 27 (by kernel_rfl) rfl rfl rfl ss_subB ?_
              refine JD.pass 28 (by kernel_rfl) rfl rfl rfl ss_subB ?_
              refine JD.pass 29 (by kernel_rfl) rfl rfl rfl ss_subB ?_
              first | refine JD.calc 30 (by kernel_rfl) rfl trivial ss_subB (q_pickTv (v := .bool _) rfl rfl rfl) ?_ | refine JD.calc 30 (by kernel_rfl) rfl trivial ss_subB (q_pickT rfl rfl) ?_
              refine JD.done (by kernel_rfl) ?_ _
              --
              exact ⟨true, rfl, ⟨rfl, rfl, rfl, rfl, trivial⟩, ⟨rfl, trivial⟩, ⟨hm, inferInstance⟩, inferInstance⟩
          ·
            replace hm := ite_F c355 hm
            refine J.drawB [] [] ?_
            first | refine JD.calc 0 (by kernel_rfl) rfl trivial ss_subB (q_mvv (v := .int _ _) rfl) ?_ | refine JD.calc 0 (by kernel_rfl) rfl trivial ss_subB (q_mv) ?_
            refine JD.calc 1 (by kernel_rfl) rfl trivial ss_subB (q_neq rfl rfl) ?_
            first | refine JD.calc 2 (by kernel_rfl) rfl trivial ss_subB (q_mvv (v := .bool _) rfl) ?_ | refine JD.calc 2 (by kernel_rfl) rfl trivial ss_subB (q_mv) ?_
            refine JD.pass 3 (by kernel_rfl) rfl rfl (congrArg Value.bool (decide_eq_true c355)) ss_subB ?_
            refine JD.pass 4 (by kernel_rfl) rfl rfl (congrArg Value.bool (decide_eq_true c355)) ss_subB ?_
            first | refine JD.calc 5 (by kernel_rfl) rfl trivial ss_subB (q_pickTv (v := .bool _) rfl (decide_eq_true c355) rfl) ?_ | refine JD.calc 5 (by kernel_rfl) rfl trivial ss_subB (q_pickT rfl (decide_eq_true c355)) ?_
            first | refine JD.calc 6 (by kernel_rfl) rfl trivial ss_subB (q_mvv (v := .bool _) rfl) ?_ | refine JD.calc 6 (by kernel_rfl) rfl trivial ss_subB (q_mv) ?_
            refine JD.pass 7 (by kernel_rfl) rfl rfl rfl ss_subB ?_
            refine JD.pass 8 (by kernel_rfl) rfl rfl rfl ss_subB ?_
            first | refine JD.calc 9 (by kernel_rfl) rfl trivial ss_subB (q_pickTv (v := .bool _) rfl rfl rfl) ?_ | refine JD.calc 9 (by kernel_rfl) rfl trivial ss_subB (q_pickT rfl rfl) ?_
            first | refine JD.calc 10 (by kernel_rfl) rfl trivial ss_subB (q_mvv (v := .bool _) rfl) ?_ | refine JD.calc 10 (by kernel_rfl) rfl trivial ss_subB (q_mv) ?_
            refine JD.pass 11 (by kernel_rfl) rfl rfl rfl ss_subB ?_
            refine JD.pass 12 (by kernel_rfl) rfl rfl rfl ss_subB ?_
            refine JD.pass 13 (by kernel_rfl) rfl rfl rfl ss_subB ?_
            refine JD.pass 14 (by kernel_rfl) rfl rfl rfl ss_subB ?_
            first | refine JD.calc 15 (by kernel_rfl) rfl trivial ss_subB (q_pickTv (v := .bool _) rfl rfl rfl) ?_ | refine JD.calc 15 (by kernel_rfl) rfl trivial ss_subB (q_pickT rfl rfl) ?_
            first | refine JD.calc 16 (by kernel_rfl) rfl trivial ss_subB (q_mvv (v := .bool _) rfl) ?_ | refine JD.calc 16 (by kernel_rfl) rfl trivial ss_subB (q_mv) ?_
            refine JD.pass 17 (by kernel_rfl) rfl rfl rfl ss_subB ?_
            refine JD.pass 18 (by kernel_rfl) rfl rfl rfl ss_subB ?_
            refine JD.pass 19 (by kernel_rfl) rfl rfl rfl ss_subB ?_
            refine JD.pass 20 (by kernel_rfl) rfl rfl rfl ss_subB ?_
            refine JD.pass 21 (by kernel_rfl) rfl rfl rfl ss_subB ?_
            first | refine JD.calc 22 (by kernel_rfl) rfl trivial ss_subB (q_pickTv (v := .bool _) rfl rfl rfl) ?_ | refine JD.calc 22 (by kernel_rfl) rfl trivial ss_subB (q_pickT rfl rfl) ?_
            first | refine JD.calc 23 (by kernel_rfl) rfl trivial ss_subB (q_mvv (v := .bool _) rfl) ?_ | refine JD.calc 23 (by kernel_rfl) rfl trivial ss_subB (q_mv) ?_
            refine JD.pass 24 (by kernel_rfl) rfl rfl rfl ss_subB ?_
            refine JD.pass 25 (by kernel_rfl) rfl rfl rfl ss_subB ?_
            refine JD.pass 26 (by kernel_rfl) rfl rfl rfl ss_subB ?_
            refine JD.pass 27 (by kernel_rfl) rfl rfl rfl ss_subB ?_
            refine JD.pass 28 (by kernel_rfl) rfl rfl rfl ss_subB ?_
            refine JD.pass 29 (by kernel_rfl) rfl rfl rfl ss_subB ?_
            first | refine JD.calc 30 (by kernel_rfl) rfl trivial ss_subB (q_pickTv (v := .bool _) rfl rfl rfl) ?_ | refine JD.calc 30 (by kernel_rfl) rfl trivial ss_subB (q_pickT rfl rfl) ?_
            refine JD.done (by kernel_rfl) ?_ _
            --
            exact ⟨true, rfl, ⟨rfl, rfl, rfl, rfl, trivial⟩, ⟨rfl, trivial⟩, ⟨hm, inferInstance⟩, inferInstance⟩
        ·
          rintro v223 σq224 hq224 Lq224 sq224 ⟨hm, hspq224⟩
          refine J.sp hspq224 ?_
          unfold M.torsionlaw06_SparseMultiplies_j2 at hm
          by_cases c275 : v223 = true
          ·
            replace hm := ite_T c275 hm
            refine J.condT rfl c275 ?_
            refine J.seq ?_
            refine J.region ?_
            first | refine o_q (q_asv (v := .bool _) rfl) ?_ | refine o_q (q_as) ?_
            refine JL.nil ?_
            refine J.ret ?_
            obtain rfl := Option.some.inj hm
            exact ret_ok (fn := Try.f6) rfl (.tmp rfl .nil) rfl
          ·
            replace hm := ite_F c275 hm
            refine J.condF rfl (eq_false_of_ne_true c275) ?_
            refine J.skip ?_
            refine J.seq ?_
            refine J.seq ?_
            refine J.region ?_
            first | refine o_q (q_asv (v := .int _ _) rfl) ?_ | refine o_q (q_as) ?_
            refine JL.nil ?_
            refine J.block ?_
            obtain ⟨k278, hm⟩ := rngN_some hm
            refine J.loopK (α := Int) (fun i277 h' L' => 0 ≤ i277 ∧ forN (M.torsionlaw06_SparseMultiplies_b1 y57 y79 y112) (M.torsionlaw06_SparseMultiplies_k1 y41) y57.Rows i277 () = some r ∧ Sp ([(b62, row 24 [.int .i64 y57.Rows, .int .i64 y57.Cols, .slice p58 n59 c60]), (b84, row 24 [.int .i64 y79.Rows, .int .i64 y79.Cols, .slice p80 n81 c82]), (b121, row 24 [.int .i64 y112.1.Rows, .int .i64 y112.1.Cols, .slice p117 n118 c119])]) L') [(7, .bool _), (8, .pointer _), (9, .pointer _), (11, .pointer _)] ⟨rfl, rfl, rfl, rfl, trivial⟩ (fun i277 => [(21, .int .i64 i277)]) (fun i277 => (y57.Rows - i277).toNat) 0 ⟨Int.le_refl _, hm, inferInstance⟩ ⟨rfl, trivial⟩ ?_
            rintro i277 σq279 hq279 Lq279 sq279 ⟨hle280, hm, hspq279⟩
            refine J.sp hspq279 ?_
            refine J.seq ?_
            refine J.seq ?_
            refine J.region ?_
            first | refine o_q (q_mvv (v := .int _ _) rfl) ?_ | refine o_q (q_mv) ?_
            refine o_q (q_fa rfl) ?_
            refine o_q (q_ld rfl inferInstance rfl) ?_
            refine o_q (q_lss rfl rfl) ?_
            refine JL.nil ?_
            by_cases c283 : i277 < y57.Rows
            ·
              obtain ⟨o281, hm, hk282⟩ := forN_lt c283 hm
              unfold M.torsionlaw06_SparseMultiplies_b1 at hm
              refine J.condT rfl (decide_eq_true c283) ?_
              have k284 : -9223372036854775808 ≤ i277 + 1 ∧ i277 + 1 ≤ 9223372036854775807 := by omega
              refine J.skip ?_
              refine J.seq ?_
              refine J.block ?_
              refine J.seq ?_
              obtain ⟨i286, x285, hi287, hl288, hx289, hm⟩ := nth_some hm
              obtain ⟨b290, o291, rfl⟩ := Sls.op f61 hl288
              obtain ⟨us292, hc293, hR294⟩ := Sls.at f61 hx289
              obtain ⟨p295, n296, c297, rfl, f298⟩ := hR294
              obtain ⟨y304, e303, hm⟩ := bnd_some hm
              obtain ⟨y314, e313, hm⟩ := bnd_some hm
              refine J.drawB [b62, b84] [] ?_
              refine JD.calc 0 (by kernel_rfl) rfl trivial ss_subB (q_fa rfl) ?_
              refine JD.loadB 1 (by kernel_rfl) rfl trivial (q_ld rfl inferInstance rfl) ?_
              first | refine JD.calc 2 (by kernel_rfl) rfl trivial ss_subB (q_mvv (v := .int _ _) rfl) ?_ | refine JD.calc 2 (by kernel_rfl) rfl trivial ss_subB (q_mv) ?_
              refine JD.calc 3 (by kernel_rfl) rfl trivial ss_subB (q_ian rfl rfl hi287 (by first | exact hl288 | (rw [Sls.len f61]; exact hl288))) ?_
              refine JD.loadB 4 (by kernel_rfl) rfl trivial (q_ldf rfl hc293) ?_
              refine JD.calc 5 (by kernel_rfl) rfl trivial ss_subB (q_fa rfl) ?_
              refine JD.loadB 6 (by kernel_rfl) rfl trivial (q_ld rfl inferInstance rfl) ?_
              refine JD.loadB 8 (by kernel_rfl) rfl trivial (q_lda (vs := [_, _, _]) rfl inferInstance ⟨rfl, rfl, rfl, trivial⟩) ?_
              refine JD.one 7 (by kernel_rfl) ?_
              refine JX.effB rfl rfl trivial ?_
              refine o_call (torsionref06_Full_fn (Sls.mono f298) e303) (fun v299 h300 s301 r302 => ?_)
              obtain ⟨p305, n306, c307, rfl, f308⟩ := Sls.op3 r302
              refine JL.nil ⟨rfl, inferInstance, inferInstance, ?_⟩
              refine JD.one 9 (by kernel_rfl) ?_
              refine JX.effB rfl rfl trivial ?_
              refine o_call (sparse_Times_fn (Sls.mono f308) ⟨_, rfl, ⟨_, _, _, rfl, Sls.mono f83⟩⟩ e313) (fun v309 h310 s311 r312 => ?_)
              obtain ⟨v315, v316, rfl, r317, r318⟩ := r312
              obtain ⟨p319, n320, c321, rfl, f322⟩ := Sls.op3 r317
              obtain rfl := (show _ = _ from r318)
              refine JL.nil ⟨rfl, inferInstance, inferInstance, ?_⟩
              refine JD.calc 10 (by kernel_rfl) rfl trivial ss_subB (q_mv) ?_
              refine JD.calc 11 (by kernel_rfl) rfl trivial ss_subB (q_ex rfl rfl) ?_
              refine JD.calc 12 (by kernel_rfl) rfl trivial ss_subB (q_ex rfl rfl) ?_
              first | refine JD.calc 13 (by kernel_rfl) rfl trivial ss_subB (q_asv (v := .slice _ _ _) rfl) ?_ | refine JD.calc 13 (by kernel_rfl) rfl trivial ss_subB (q_as) ?_
              first | refine JD.calc 14 (by kernel_rfl) rfl trivial ss_subB (q_asv (v := .int _ _) rfl) ?_ | refine JD.calc 14 (by kernel_rfl) rfl trivial ss_subB (q_as) ?_
              refine JD.done (by kernel_rfl) ?_ _
              --
              refine J.seq ?_
              by_cases c323 : y314.2 = 0
              ·
                replace hm := ite_T c323 hm
                obtain ⟨y329, e328, hm⟩ := bnd_some hm
                obtain ⟨i335, x334, hi336, hl337, hx338, hm⟩ := nth_some hm
                obtain ⟨b339, o340, rfl⟩ := Sls.op f120 hl337
                obtain ⟨us341, hc342, hR343⟩ := Sls.at f120 hx338
                obtain ⟨p344, n345, c346, rfl, f347⟩ := hR343
                obtain ⟨y353, e352, hm⟩ := bnd_some hm
                refine J.drawB [b121] [] ?_
                first | refine JD.calc 0 (by kernel_rfl) rfl trivial ss_subB (q_mvv (v := .int _ _) rfl) ?_ | refine JD.calc 0 (by kernel_rfl) rfl trivial ss_subB (q_mv) ?_
                refine JD.calc 1 (by kernel_rfl) rfl trivial ss_subB (q_neq rfl rfl) ?_
                first | refine JD.calc 2 (by kernel_rfl) rfl trivial ss_subB (q_mvv (v := .bool _) rfl) ?_ | refine JD.calc 2 (by kernel_rfl) rfl trivial ss_subB (q_mv) ?_
                first | refine JD.calc 3 (by kernel_rfl) rfl ⟨_, rfl, (congrArg Value.bool (decide_eq_false (fun z => z c323)))⟩ ss_subB (q_mvv (v := .slice _ _ _) rfl) ?_ | refine JD.calc 3 (by kernel_rfl) rfl ⟨_, rfl, (congrArg Value.bool (decide_eq_false (fun z => z c323)))⟩ ss_subB (q_mv) ?_
                refine JD.calc 5 (by kernel_rfl) rfl ⟨_, rfl, (congrArg Value.bool (decide_eq_false (fun z => z c323)))⟩ ss_subB (q_fa rfl) ?_
                refine JD.loadB 6 (by kernel_rfl) rfl ⟨_, rfl, (congrArg Value.bool (decide_eq_false (fun z => z c323)))⟩ (q_ld rfl inferInstance rfl) ?_
                first | refine JD.calc 7 (by kernel_rfl) rfl ⟨_, rfl, (congrArg Value.bool (decide_eq_false (fun z => z c323)))⟩ ss_subB (q_mvv (v := .int _ _) rfl) ?_ | refine JD.calc 7 (by kernel_rfl) rfl ⟨_, rfl, (congrArg Value.bool (decide_eq_false (fun z => z c323)))⟩ ss_subB (q_mv) ?_
                refine JD.calc 8 (by kernel_rfl) rfl ⟨_, rfl, (congrArg Value.bool (decide_eq_false (fun z => z c323)))⟩ ss_subB (q_ian rfl rfl hi336 (by first | exact hl337 | (rw [Sls.len f120]; exact hl337))) ?_
                refine JD.loadB 9 (by kernel_rfl) rfl ⟨_, rfl, (congrArg Value.bool (decide_eq_false (fun z => z c323)))⟩ (q_ldf rfl hc342) ?_
                refine JD.one 4 (by kernel_rfl) ?_
                refine JX.effB rfl rfl ⟨_, rfl, (congrArg Value.bool (decide_eq_false (fun z => z c323)))⟩ ?_
                refine o_call (torsionref06_Row_fn (Sls.mono f322) e328) (fun v324 h325 s326 r327 => ?_)
                obtain ⟨p330, n331, c332, rfl, f333⟩ := Sls.op3 r327
                refine JL.nil ⟨rfl, inferInstance, inferInstance, ?_⟩
                refine JD.one 10 (by kernel_rfl) ?_
                refine JX.effB rfl rfl ⟨_, rfl, (congrArg Value.bool (decide_eq_false (fun z => z c323)))⟩ ?_
                refine o_call (torsionref06_SameRow_fn (Sls.mono f333) (Sls.mono f347) e352) (fun v348 h349 s350 r351 => ?_)
                obtain rfl := (show _ = _ from r351)
                refine JL.nil ⟨rfl, inferInstance, inferInstance, ?_⟩
                refine JD.calc 11 (by kernel_rfl) rfl ⟨_, rfl, (congrArg Value.bool (decide_eq_false (fun z => z c323)))⟩ ss_subB (q_not rfl) ?_
                first | refine JD.calc 12 (by kernel_rfl) rfl trivial ss_subB (q_pickFv (v := .bool _) rfl (decide_eq_false (fun z => z c323)) rfl) ?_ | refine JD.calc 12 (by kernel_rfl) rfl trivial ss_subB (q_pickF rfl (decide_eq_false (fun z => z c323))) ?_
                refine JD.done (by kernel_rfl) ?_ _
                --
                by_cases c354 : y353 = true
                ·
                  replace hm := ite_T c354 hm
                  refine J.condF rfl (congrArg Bool.not (show y353 = true from c354)) ?_
                  refine J.skip ?_
                  refine J.region ?_
                  first | refine o_q (q_mvv (v := .int _ _) rfl) ?_ | refine o_q (q_mv) ?_
                  refine o_q (q_add rfl rfl (wi64 k284)) ?_
                  first | refine o_q (q_asv (v := .int _ _) rfl) ?_ | refine o_q (q_as) ?_
                  refine JL.nil ?_
                  replace hm := inl_onward hm hk282
                  exact ⟨(i277 + 1), rfl, ⟨rfl, rfl, rfl, rfl, trivial⟩, ⟨rfl, trivial⟩, ⟨Int.le_trans hle280 (Int.le_of_lt (Int.lt_succ _)), hm, inferInstance⟩, (muN c283), inferInstance⟩
                ·
                  replace hm := ite_F c354 hm
                  refine J.condT rfl (congrArg Bool.not (show y353 = false from (eq_false_of_ne_true c354))) ?_
                  refine J.seq ?_
                  refine J.region ?_
                  first | refine o_q (q_asv (v := .bool _) rfl) ?_ | refine o_q (q_as) ?_
                  refine JL.nil ?_
                  replace hm := inr_onward hm hk282
                  refine J.ret ?_
                  obtain rfl := Option.some.inj hm
                  exact ret_ok (fn := Try.f6) rfl (.tmp rfl .nil) rfl
              ·
                replace hm := ite_F c323 hm
                refine J.drawB [] [] ?_
                first | refine JD.calc 0 (by kernel_rfl) rfl trivial ss_subB (q_mvv (v := .int _ _) rfl) ?_ | refine JD.calc 0 (by kernel_rfl) rfl trivial ss_subB (q_mv) ?_
                refine JD.calc 1 (by kernel_rfl) rfl trivial ss_subB (q_neq rfl rfl) ?_
                first | refine JD.calc 2 (by kernel_rfl) rfl trivial ss_subB (q_mvv (v := .bool _) rfl) ?_ | refine JD.calc 2 (by kernel_rfl) rfl trivial ss_subB (q_mv) ?_
                refine JD.pass 3 (by kernel_rfl) rfl rfl (congrArg Value.bool (decide_eq_true c323)) ss_subB ?_
                refine JD.pass 4 (by kernel_rfl) rfl rfl (congrArg Value.bool (decide_eq_true c323)) ss_subB ?_
                refine JD.pass 5 (by kernel_rfl) rfl rfl (congrArg Value.bool (decide_eq_true c323)) ss_subB ?_
                refine JD.pass 6 (by kernel_rfl) rfl rfl (congrArg Value.bool (decide_eq_true c323)) ss_subB ?_
                refine JD.pass 7 (by kernel_rfl) rfl rfl (congrArg Value.bool (decide_eq_true c323)) ss_subB ?_
                refine JD.pass 8 (by kernel_rfl) rfl rfl (congrArg Value.bool (decide_eq_true c323)) ss_subB ?_
                refine JD.pass 9 (by kernel_rfl) rfl rfl (congrArg Value.bool (decide_eq_true c323)) ss_subB ?_
                refine JD.pass 10 (by kernel_rfl) rfl rfl (congrArg Value.bool (decide_eq_true c323)) ss_subB ?_
                refine JD.pass 11 (by kernel_rfl) rfl rfl (congrArg Value.bool (decide_eq_true c323)) ss_subB ?_
                first | refine JD.calc 12 (by kernel_rfl) rfl trivial ss_subB (q_pickTv (v := .bool _) rfl (decide_eq_true c323) rfl) ?_ | refine JD.calc 12 (by kernel_rfl) rfl trivial ss_subB (q_pickT rfl (decide_eq_true c323)) ?_
                refine JD.done (by kernel_rfl) ?_ _
                --
                refine J.condT rfl rfl ?_
                refine J.seq ?_
                refine J.region ?_
                first | refine o_q (q_asv (v := .bool _) rfl) ?_ | refine o_q (q_as) ?_
                refine JL.nil ?_
                replace hm := inr_onward hm hk282
                refine J.ret ?_
                obtain rfl := Option.some.inj hm
                exact ret_ok (fn := Try.f6) rfl (.tmp rfl .nil) rfl
            ·
              replace hm := forN_ge c283 hm
              unfold M.torsionlaw06_SparseMultiplies_k1 at hm
              refine J.condF rfl (decide_eq_false c283) ?_
              refine J.exit ?_
              refine J.seq ?_
              refine J.region ?_
              first | refine o_q (q_mvv (v := .bool _) rfl) ?_ | refine o_q (q_mv) ?_
              first | refine o_q (q_asv (v := .bool _) rfl) ?_ | refine o_q (q_as) ?_
              refine JL.nil ?_
              refine J.ret ?_
              obtain rfl := Option.some.inj hm
              exact ret_ok (fn := Try.f6) rfl (.tmp rfl .nil) rfl
end Go.Z
end
