/- Texts of ours, joined: L6dW, Open, Open6. -/
import Derived.Test.YtjdfhlkpfjhjoaaX4
import Derived.Test.YtjdfhlkpfjhjoaaX1
import Derived.Test.YtjdfhlkpfjhjoaaX12
import Derived.Test.YtjdfhlkpfjhjoaaX3
import Derived.Deep.Slices
import Derived.ProofKit
import Derived.Test.YtjdfhlkpfjhjoaaChecked
section
set_option linter.unusedSimpArgs false
set_option linter.unusedVariables false
/- Functions of the program return what their models compute; printed by wip/tools/gx.py. -/
set_option linter.unusedVariables false
set_option linter.unusedSimpArgs false
namespace Go.Z
open Go Go.RowKit Go.Proofs
set_option maxHeartbeats 4000000 in
theorem torsionlaw06_SparseMatchesReference_fn {h : Heap} {x0 : R06Raw} {x1 : R06Raw} {x2 : List Int} {v0 : Value} {v1 : Value} {v2 : Value} (r0 : AggV R06RawR h v0 x0) (r1 : AggV R06RawR h v1 x1) (r2 : Sls (KR .i8) 1 h v2 x2) {r : Bool} (hm : M.torsionlaw06_SparseMatchesReference x0 x1 x2 = some r) :
    Fn Try.prog 8 #[v0, v1, v2] h fun v h' => v = .bool r := by
  obtain ⟨_, rfl, p21, n22, c23, rfl, f24⟩ := r0
  obtain ⟨_, rfl, p25, n26, c27, rfl, f28⟩ := r1
  obtain ⟨p29, n30, c31, rfl, f32⟩ := Sls.op3 r2
  refine Fn.intro (args := [_, _, _]) Try.func8 rfl rfl (Nat.le_of_ble_eq_true rfl) fun w => ?_
  unfold M.torsionlaw06_SparseMatchesReference at hm
  refine J.seq ?_
  refine J.region ?_
  first | refine o_bx (v := .agg ⟨[.int _ _, .int _ _, .slice _ _ _]⟩) rfl rfl (fun b33 => ?_) | refine o_bx rfl rfl (fun b33 => ?_)
  first | refine o_bx (v := .agg ⟨[.int _ _, .int _ _, .slice _ _ _]⟩) rfl rfl (fun b34 => ?_) | refine o_bx rfl rfl (fun b34 => ?_)
  first | refine o_q (q_asv (v := .bool _) rfl) ?_ | refine o_q (q_as) ?_
  refine JL.nil ?_
  refine J.seq ?_
  obtain ⟨y40, e39, hm⟩ := bnd_some hm
  refine J.region ?_
  refine o_call (sanity_fn' e39) (fun v35 h36 s37 r38 => ?_)
  obtain rfl := (show _ = _ from r38)
  first | refine o_q (q_asv (v := .bool _) rfl) ?_ | refine o_q (q_as) ?_
  refine JL.nil ?_
  refine J.seq ?_
  obtain ⟨y46, e45, hm⟩ := bnd_some hm
  obtain ⟨y56, e55, hm⟩ := bnd_some hm
  refine J.region ?_
  refine o_q (q_lda (vs := [_, _, _]) rfl inferInstance ⟨rfl, rfl, rfl, trivial⟩) ?_
  refine o_call (torsionref06_Made_fn ⟨_, rfl, ⟨_, _, _, rfl, Sls.mono f24⟩⟩ e45) (fun v41 h42 s43 r44 => ?_)
  obtain ⟨_, rfl, p47, n48, c49, rfl, f50⟩ := r44
  refine o_call (torsionref06_From_fn ⟨_, rfl, ⟨_, _, _, rfl, Sls.mono f50⟩⟩ e55) (fun v51 h52 s53 r54 => ?_)
  obtain ⟨_, rfl, p57, n58, c59, rfl, f60⟩ := r54
  refine o_al (fun b61 => ?_)
  first | refine o_stc (vs := [.int _ _, .int _ _, .slice _ _ _]) (l' := [.int _ _, .int _ _, .slice _ _ _]) rfl rfl rfl rfl rfl inferInstance rfl rfl ?_ | refine o_stc (vs := [_, _, _]) (l' := [_, _, _]) rfl rfl rfl rfl rfl inferInstance rfl rfl ?_
  refine JL.nil ?_
  refine J.seq ?_
  obtain ⟨k62, hm⟩ := chk64_some hm
  obtain ⟨y68, e67, hm⟩ := bnd_some hm
  obtain ⟨y78, e77, hm⟩ := bnd_some hm
  refine J.region ?_
  refine o_q (q_lda (vs := [_, _, _]) rfl inferInstance ⟨rfl, rfl, rfl, trivial⟩) ?_
  refine o_q (q_fa rfl) ?_
  refine o_q (q_ld rfl inferInstance rfl) ?_
  refine o_q (q_fa rfl) ?_
  refine o_q (q_ld rfl inferInstance rfl) ?_
  refine o_q (q_cv rfl (wi64 k62)) ?_
  refine o_q (q_rem rfl rfl (by decide) rfl) ?_
  refine o_call (torsionref06_Sized_fn ⟨_, rfl, ⟨_, _, _, rfl, Sls.mono f28⟩⟩ e67) (fun v63 h64 s65 r66 => ?_)
  obtain ⟨_, rfl, p69, n70, c71, rfl, f72⟩ := r66
  refine o_call (torsionref06_From_fn ⟨_, rfl, ⟨_, _, _, rfl, Sls.mono f72⟩⟩ e77) (fun v73 h74 s75 r76 => ?_)
  obtain ⟨_, rfl, p79, n80, c81, rfl, f82⟩ := r76
  refine o_al (fun b83 => ?_)
  first | refine o_stc (vs := [.int _ _, .int _ _, .slice _ _ _]) (l' := [.int _ _, .int _ _, .slice _ _ _]) rfl rfl rfl rfl rfl inferInstance rfl rfl ?_ | refine o_stc (vs := [_, _, _]) (l' := [_, _, _]) rfl rfl rfl rfl rfl inferInstance rfl rfl ?_
  refine JL.nil ?_
  refine J.seq ?_
  obtain ⟨y89, e88, hm⟩ := bnd_some hm
  refine J.region ?_
  first | refine o_q (q_mvv (v := .slice _ _ _) rfl) ?_ | refine o_q (q_mv) ?_
  refine o_q (q_fa rfl) ?_
  refine o_q (q_ld rfl inferInstance rfl) ?_
  refine o_call (torsionref06_Vec_fn (Sls.mono f32) e88) (fun v84 h85 s86 r87 => ?_)
  obtain ⟨p90, n91, c92, rfl, f93⟩ := Sls.op3 r87
  first | refine o_q (q_asv (v := .slice _ _ _) rfl) ?_ | refine o_q (q_as) ?_
  refine JL.nil ?_
  refine J.seq ?_
  obtain ⟨y99, e98, hm⟩ := bnd_some hm
  refine J.region ?_
  refine o_q (q_lda (vs := [_, _, _]) rfl inferInstance ⟨rfl, rfl, rfl, trivial⟩) ?_
  refine o_q (q_lda (vs := [_, _, _]) rfl inferInstance ⟨rfl, rfl, rfl, trivial⟩) ?_
  refine o_call (sparse_Mul_fn ⟨_, rfl, ⟨_, _, _, rfl, Sls.mono f60⟩⟩ ⟨_, rfl, ⟨_, _, _, rfl, Sls.mono f82⟩⟩ e98) (fun v94 h95 s96 r97 => ?_)
  obtain ⟨v100, v101, rfl, r102, r103⟩ := r97
  obtain ⟨_, rfl, p104, n105, c106, rfl, f107⟩ := r102
  obtain rfl := (show _ = _ from r103)
  refine o_q (q_mv) ?_
  refine o_q (q_ex rfl rfl) ?_
  refine o_q (q_ex rfl rfl) ?_
  refine o_al (fun b108 => ?_)
  first | refine o_stc (vs := [.int _ _, .int _ _, .slice _ _ _]) (l' := [.int _ _, .int _ _, .slice _ _ _]) rfl rfl rfl rfl rfl inferInstance rfl rfl ?_ | refine o_stc (vs := [_, _, _]) (l' := [_, _, _]) rfl rfl rfl rfl rfl inferInstance rfl rfl ?_
  first | refine o_q (q_asv (v := .int _ _) rfl) ?_ | refine o_q (q_as) ?_
  refine JL.nil ?_
  refine J.seq ?_
  obtain ⟨y114, e113, hm⟩ := bnd_some hm
  refine J.region ?_
  refine o_q (q_lda (vs := [_, _, _]) rfl inferInstance ⟨rfl, rfl, rfl, trivial⟩) ?_
  refine o_q (q_lda (vs := [_, _, _]) rfl inferInstance ⟨rfl, rfl, rfl, trivial⟩) ?_
  refine o_call (torsionref06_Mul_fn ⟨_, rfl, ⟨_, _, _, rfl, Sls.mono f60⟩⟩ ⟨_, rfl, ⟨_, _, _, rfl, Sls.mono f82⟩⟩ e113) (fun v109 h110 s111 r112 => ?_)
  obtain ⟨v115, v116, rfl, r117, r118⟩ := r112
  obtain ⟨_, rfl, p119, n120, c121, rfl, f122⟩ := r117
  obtain rfl := (show _ = _ from r118)
  refine o_q (q_mv) ?_
  refine o_q (q_ex rfl rfl) ?_
  refine o_q (q_ex rfl rfl) ?_
  refine o_al (fun b123 => ?_)
  first | refine o_stc (vs := [.int _ _, .int _ _, .slice _ _ _]) (l' := [.int _ _, .int _ _, .slice _ _ _]) rfl rfl rfl rfl rfl inferInstance rfl rfl ?_ | refine o_stc (vs := [_, _, _]) (l' := [_, _, _]) rfl rfl rfl rfl rfl inferInstance rfl rfl ?_
  first | refine o_q (q_asv (v := .int _ _) rfl) ?_ | refine o_q (q_as) ?_
  refine JL.nil ?_
  refine J.seq ?_
  obtain ⟨y129, e128, hm⟩ := bnd_some hm
  refine J.region ?_
  first | refine o_q (q_mvv (v := .slice _ _ _) rfl) ?_ | refine o_q (q_mv) ?_
  refine o_q (q_lda (vs := [_, _, _]) rfl inferInstance ⟨rfl, rfl, rfl, trivial⟩) ?_
  refine o_call (sparse_Times_fn (Sls.mono f93) ⟨_, rfl, ⟨_, _, _, rfl, Sls.mono f60⟩⟩ e128) (fun v124 h125 s126 r127 => ?_)
  obtain ⟨v130, v131, rfl, r132, r133⟩ := r127
  obtain ⟨p134, n135, c136, rfl, f137⟩ := Sls.op3 r132
  obtain rfl := (show _ = _ from r133)
  refine o_q (q_mv) ?_
  refine o_q (q_ex rfl rfl) ?_
  refine o_q (q_ex rfl rfl) ?_
  first | refine o_q (q_asv (v := .slice _ _ _) rfl) ?_ | refine o_q (q_as) ?_
  first | refine o_q (q_asv (v := .int _ _) rfl) ?_ | refine o_q (q_as) ?_
  refine JL.nil ?_
  refine J.seq ?_
  obtain ⟨y143, e142, hm⟩ := bnd_some hm
  refine J.region ?_
  first | refine o_q (q_mvv (v := .slice _ _ _) rfl) ?_ | refine o_q (q_mv) ?_
  refine o_q (q_lda (vs := [_, _, _]) rfl inferInstance ⟨rfl, rfl, rfl, trivial⟩) ?_
  refine o_call (torsionref06_Times_fn (Sls.mono f93) ⟨_, rfl, ⟨_, _, _, rfl, Sls.mono f60⟩⟩ e142) (fun v138 h139 s140 r141 => ?_)
  obtain ⟨v144, v145, rfl, r146, r147⟩ := r141
  obtain ⟨p148, n149, c150, rfl, f151⟩ := Sls.op3 r146
  obtain rfl := (show _ = _ from r147)
  refine o_q (q_mv) ?_
  refine o_q (q_ex rfl rfl) ?_
  refine o_q (q_ex rfl rfl) ?_
  first | refine o_q (q_asv (v := .slice _ _ _) rfl) ?_ | refine o_q (q_as) ?_
  first | refine o_q (q_asv (v := .int _ _) rfl) ?_ | refine o_q (q_as) ?_
  refine JL.nil ?_
  refine J.seq ?_
  refine J.seq ?_
  refine J.joinK (α := Bool) (fun v153 h' L' => (M.torsionlaw06_SparseMatchesReference_j1 y40 y56 y78) v153 = some r ∧ Sp ([(b61, row 24 [.int .i64 y56.Rows, .int .i64 y56.Cols, .slice p57 n58 c59]), (b83, row 24 [.int .i64 y78.Rows, .int .i64 y78.Cols, .slice p79 n80 c81])]) L') [(7, .bool _), (8, .pointer _), (9, .pointer _)] ⟨rfl, rfl, rfl, trivial⟩ (fun v153 => [(79, .bool v153)]) ?_ ?_
  ·
    obtain ⟨y267, e266, hm⟩ := bnd_some hm
    by_cases c268 : y267 = true
    ·
      replace hm := ite_T c268 hm
      by_cases c269 : y99.2 = y114.2
      ·
        replace hm := ite_T c269 hm
        obtain ⟨y275, e274, hm⟩ := bnd_some hm
        by_cases c276 : y275 = true
        ·
          replace hm := ite_T c276 hm
          refine J.region ?_
          refine o_q (q_lda (vs := [_, _, _]) rfl inferInstance ⟨rfl, rfl, rfl, trivial⟩) ?_
          refine o_q (q_lda (vs := [_, _, _]) rfl inferInstance ⟨rfl, rfl, rfl, trivial⟩) ?_
          refine o_call (torsionref06_Equal_fn ⟨_, rfl, ⟨_, _, _, rfl, Sls.mono f107⟩⟩ ⟨_, rfl, ⟨_, _, _, rfl, Sls.mono f122⟩⟩ e266) (fun v262 h263 s264 r265 => ?_)
          obtain rfl := (show _ = _ from r265)
          refine o_q (q_not rfl) ?_
          first | refine o_q (q_mvv (v := .bool _) rfl) ?_ | refine o_q (q_mv) ?_
          refine JL.guardT rfl rfl (congrArg Bool.not (show y267 = true from c268)) ?_
          first | refine o_q (q_mvv (v := .int _ _) rfl) ?_ | refine o_q (q_mv) ?_
          refine JL.guardT rfl rfl (congrArg Bool.not (show y267 = true from c268)) ?_
          first | refine o_q (q_mvv (v := .int _ _) rfl) ?_ | refine o_q (q_mv) ?_
          refine JL.guardT rfl rfl (congrArg Bool.not (show y267 = true from c268)) ?_
          refine o_q (q_neq rfl rfl) ?_
          first | refine o_q (q_pickFv (v := .bool _) rfl (congrArg Bool.not (show y267 = true from c268)) rfl) ?_ | refine o_q (q_pickF rfl (congrArg Bool.not (show y267 = true from c268))) ?_
          first | refine o_q (q_mvv (v := .bool _) rfl) ?_ | refine o_q (q_mv) ?_
          refine JL.guardT rfl rfl (decide_eq_false (fun z => z c269)) ?_
          first | refine o_q (q_mvv (v := .slice _ _ _) rfl) ?_ | refine o_q (q_mv) ?_
          refine JL.guardT rfl rfl (decide_eq_false (fun z => z c269)) ?_
          first | refine o_q (q_mvv (v := .slice _ _ _) rfl) ?_ | refine o_q (q_mv) ?_
          refine JL.guardT rfl rfl (decide_eq_false (fun z => z c269)) ?_
          refine o_call (torsionref06_SameVec_fn (Sls.mono f137) (Sls.mono f151) e274) (fun v270 h271 s272 r273 => ?_)
          obtain rfl := (show _ = _ from r273)
          refine JL.guardT rfl rfl (decide_eq_false (fun z => z c269)) ?_
          refine o_q (q_not rfl) ?_
          first | refine o_q (q_pickFv (v := .bool _) rfl (decide_eq_false (fun z => z c269)) rfl) ?_ | refine o_q (q_pickF rfl (decide_eq_false (fun z => z c269))) ?_
          first | refine o_q (q_mvv (v := .bool _) rfl) ?_ | refine o_q (q_mv) ?_
          refine JL.guardT rfl rfl (congrArg Bool.not (show y275 = true from c276)) ?_
          first | refine o_q (q_mvv (v := .int _ _) rfl) ?_ | refine o_q (q_mv) ?_
          refine JL.guardT rfl rfl (congrArg Bool.not (show y275 = true from c276)) ?_
          first | refine o_q (q_mvv (v := .int _ _) rfl) ?_ | refine o_q (q_mv) ?_
          refine JL.guardT rfl rfl (congrArg Bool.not (show y275 = true from c276)) ?_
          refine o_q (q_neq rfl rfl) ?_
          first | refine o_q (q_pickFv (v := .bool _) rfl (congrArg Bool.not (show y275 = true from c276)) rfl) ?_ | refine o_q (q_pickF rfl (congrArg Bool.not (show y275 = true from c276))) ?_
          refine JL.nil ?_
          exact ⟨(decide (y129.2 ≠ y143.2)), rfl, ⟨rfl, rfl, rfl, trivial⟩, ⟨rfl, trivial⟩, ⟨hm, inferInstance⟩, inferInstance⟩
        ·
          replace hm := ite_F c276 hm
          refine J.region ?_
          refine o_q (q_lda (vs := [_, _, _]) rfl inferInstance ⟨rfl, rfl, rfl, trivial⟩) ?_
          refine o_q (q_lda (vs := [_, _, _]) rfl inferInstance ⟨rfl, rfl, rfl, trivial⟩) ?_
          refine o_call (torsionref06_Equal_fn ⟨_, rfl, ⟨_, _, _, rfl, Sls.mono f107⟩⟩ ⟨_, rfl, ⟨_, _, _, rfl, Sls.mono f122⟩⟩ e266) (fun v262 h263 s264 r265 => ?_)
          obtain rfl := (show _ = _ from r265)
          refine o_q (q_not rfl) ?_
          first | refine o_q (q_mvv (v := .bool _) rfl) ?_ | refine o_q (q_mv) ?_
          refine JL.guardT rfl rfl (congrArg Bool.not (show y267 = true from c268)) ?_
          first | refine o_q (q_mvv (v := .int _ _) rfl) ?_ | refine o_q (q_mv) ?_
          refine JL.guardT rfl rfl (congrArg Bool.not (show y267 = true from c268)) ?_
          first | refine o_q (q_mvv (v := .int _ _) rfl) ?_ | refine o_q (q_mv) ?_
          refine JL.guardT rfl rfl (congrArg Bool.not (show y267 = true from c268)) ?_
          refine o_q (q_neq rfl rfl) ?_
          first | refine o_q (q_pickFv (v := .bool _) rfl (congrArg Bool.not (show y267 = true from c268)) rfl) ?_ | refine o_q (q_pickF rfl (congrArg Bool.not (show y267 = true from c268))) ?_
          first | refine o_q (q_mvv (v := .bool _) rfl) ?_ | refine o_q (q_mv) ?_
          refine JL.guardT rfl rfl (decide_eq_false (fun z => z c269)) ?_
          first | refine o_q (q_mvv (v := .slice _ _ _) rfl) ?_ | refine o_q (q_mv) ?_
          refine JL.guardT rfl rfl (decide_eq_false (fun z => z c269)) ?_
          first | refine o_q (q_mvv (v := .slice _ _ _) rfl) ?_ | refine o_q (q_mv) ?_
          refine JL.guardT rfl rfl (decide_eq_false (fun z => z c269)) ?_
          refine o_call (torsionref06_SameVec_fn (Sls.mono f137) (Sls.mono f151) e274) (fun v270 h271 s272 r273 => ?_)
          obtain rfl := (show _ = _ from r273)
          refine JL.guardT rfl rfl (decide_eq_false (fun z => z c269)) ?_
          refine o_q (q_not rfl) ?_
          first | refine o_q (q_pickFv (v := .bool _) rfl (decide_eq_false (fun z => z c269)) rfl) ?_ | refine o_q (q_pickF rfl (decide_eq_false (fun z => z c269))) ?_
          first | refine o_q (q_mvv (v := .bool _) rfl) ?_ | refine o_q (q_mv) ?_
          refine JL.guardF rfl rfl (congrArg Bool.not (show y275 = false from (eq_false_of_ne_true c276))) rfl ?_
          refine JL.guardF rfl rfl (congrArg Bool.not (show y275 = false from (eq_false_of_ne_true c276))) rfl ?_
          refine JL.guardF rfl rfl (congrArg Bool.not (show y275 = false from (eq_false_of_ne_true c276))) rfl ?_
          first | refine o_q (q_pickTv (v := .bool _) rfl (congrArg Bool.not (show y275 = false from (eq_false_of_ne_true c276))) rfl) ?_ | refine o_q (q_pickT rfl (congrArg Bool.not (show y275 = false from (eq_false_of_ne_true c276)))) ?_
          refine JL.nil ?_
          exact ⟨true, rfl, ⟨rfl, rfl, rfl, trivial⟩, ⟨rfl, trivial⟩, ⟨hm, inferInstance⟩, inferInstance⟩
      ·
        replace hm := ite_F c269 hm
        refine J.region ?_
        refine o_q (q_lda (vs := [_, _, _]) rfl inferInstance ⟨rfl, rfl, rfl, trivial⟩) ?_
        refine o_q (q_lda (vs := [_, _, _]) rfl inferInstance ⟨rfl, rfl, rfl, trivial⟩) ?_
        refine o_call (torsionref06_Equal_fn ⟨_, rfl, ⟨_, _, _, rfl, Sls.mono f107⟩⟩ ⟨_, rfl, ⟨_, _, _, rfl, Sls.mono f122⟩⟩ e266) (fun v262 h263 s264 r265 => ?_)
        obtain rfl := (show _ = _ from r265)
        refine o_q (q_not rfl) ?_
        first | refine o_q (q_mvv (v := .bool _) rfl) ?_ | refine o_q (q_mv) ?_
        refine JL.guardT rfl rfl (congrArg Bool.not (show y267 = true from c268)) ?_
        first | refine o_q (q_mvv (v := .int _ _) rfl) ?_ | refine o_q (q_mv) ?_
        refine JL.guardT rfl rfl (congrArg Bool.not (show y267 = true from c268)) ?_
        first | refine o_q (q_mvv (v := .int _ _) rfl) ?_ | refine o_q (q_mv) ?_
        refine JL.guardT rfl rfl (congrArg Bool.not (show y267 = true from c268)) ?_
        refine o_q (q_neq rfl rfl) ?_
        first | refine o_q (q_pickFv (v := .bool _) rfl (congrArg Bool.not (show y267 = true from c268)) rfl) ?_ | refine o_q (q_pickF rfl (congrArg Bool.not (show y267 = true from c268))) ?_
        first | refine o_q (q_mvv (v := .bool _) rfl) ?_ | refine o_q (q_mv) ?_
        refine JL.guardF rfl rfl (decide_eq_true c269) rfl ?_
        refine JL.guardF rfl rfl (decide_eq_true c269) rfl ?_
        refine JL.guardF rfl rfl (decide_eq_true c269) rfl ?_
        refine JL.guardF rfl rfl (decide_eq_true c269) rfl ?_
        first | refine o_q (q_pickTv (v := .bool _) rfl (decide_eq_true c269) rfl) ?_ | refine o_q (q_pickT rfl (decide_eq_true c269)) ?_
        first | refine o_q (q_mvv (v := .bool _) rfl) ?_ | refine o_q (q_mv) ?_
        refine JL.guardF rfl rfl rfl rfl ?_
        refine JL.guardF rfl rfl rfl rfl ?_
        refine JL.guardF rfl rfl rfl rfl ?_
        first | refine o_q (q_pickTv (v := .bool _) rfl rfl rfl) ?_ | refine o_q (q_pickT rfl rfl) ?_
        refine JL.nil ?_
        exact ⟨true, rfl, ⟨rfl, rfl, rfl, trivial⟩, ⟨rfl, trivial⟩, ⟨hm, inferInstance⟩, inferInstance⟩
    ·
      replace hm := ite_F c268 hm
      refine J.region ?_
      refine o_q (q_lda (vs := [_, _, _]) rfl inferInstance ⟨rfl, rfl, rfl, trivial⟩) ?_
      refine o_q (q_lda (vs := [_, _, _]) rfl inferInstance ⟨rfl, rfl, rfl, trivial⟩) ?_
      refine o_call (torsionref06_Equal_fn ⟨_, rfl, ⟨_, _, _, rfl, Sls.mono f107⟩⟩ ⟨_, rfl, ⟨_, _, _, rfl, Sls.mono f122⟩⟩ e266) (fun v262 h263 s264 r265 => ?_)
      obtain rfl := (show _ = _ from r265)
      refine o_q (q_not rfl) ?_
      first | refine o_q (q_mvv (v := .bool _) rfl) ?_ | refine o_q (q_mv) ?_
      refine JL.guardF rfl rfl (congrArg Bool.not (show y267 = false from (eq_false_of_ne_true c268))) rfl ?_
      refine JL.guardF rfl rfl (congrArg Bool.not (show y267 = false from (eq_false_of_ne_true c268))) rfl ?_
      refine JL.guardF rfl rfl (congrArg Bool.not (show y267 = false from (eq_false_of_ne_true c268))) rfl ?_
      first | refine o_q (q_pickTv (v := .bool _) rfl (congrArg Bool.not (show y267 = false from (eq_false_of_ne_true c268))) rfl) ?_ | refine o_q (q_pickT rfl (congrArg Bool.not (show y267 = false from (eq_false_of_ne_true c268)))) ?_
      first | refine o_q (q_mvv (v := .bool _) rfl) ?_ | refine o_q (q_mv) ?_
      refine JL.guardF rfl rfl rfl rfl ?_
      refine JL.guardF rfl rfl rfl rfl ?_
      refine JL.guardF rfl rfl rfl rfl ?_
      refine JL.guardF rfl rfl rfl rfl ?_
      first | refine o_q (q_pickTv (v := .bool _) rfl rfl rfl) ?_ | refine o_q (q_pickT rfl rfl) ?_
      first | refine o_q (q_mvv (v := .bool _) rfl) ?_ | refine o_q (q_mv) ?_
      refine JL.guardF rfl rfl rfl rfl ?_
      refine JL.guardF rfl rfl rfl rfl ?_
      refine JL.guardF rfl rfl rfl rfl ?_
      first | refine o_q (q_pickTv (v := .bool _) rfl rfl rfl) ?_ | refine o_q (q_pickT rfl rfl) ?_
      refine JL.nil ?_
      exact ⟨true, rfl, ⟨rfl, rfl, rfl, trivial⟩, ⟨rfl, trivial⟩, ⟨hm, inferInstance⟩, inferInstance⟩
  ·
    rintro v153 σq154 hq154 Lq154 sq154 ⟨hm, hspq154⟩
    refine J.sp hspq154 ?_
    unfold M.torsionlaw06_SparseMatchesReference_j1 at hm
    by_cases c167 : v153 = true
    ·
      replace hm := ite_T c167 hm
      refine J.condT rfl c167 ?_
      refine J.seq ?_
      refine J.region ?_
      first | refine o_q (q_asv (v := .bool _) rfl) ?_ | refine o_q (q_as) ?_
      refine JL.nil ?_
      refine J.ret ?_
      obtain rfl := Option.some.inj hm
      exact ret_ok (fn := Try.f8) rfl (.tmp rfl .nil) rfl
    ·
      replace hm := ite_F c167 hm
      refine J.condF rfl (eq_false_of_ne_true c167) ?_
      refine J.skip ?_
      refine J.seq ?_
      by_cases c168 : y40 = true
      ·
        replace hm := ite_T c168 hm
        obtain ⟨y174, e173, hm⟩ := bnd_some hm
        obtain ⟨y184, e183, hm⟩ := bnd_some hm
        obtain ⟨y194, e193, hm⟩ := bnd_some hm
        by_cases c195 : y194 = true
        ·
          replace hm := ite_T c195 hm
          obtain ⟨y201, e200, hm⟩ := bnd_some hm
          obtain ⟨y207, e206, hm⟩ := bnd_some hm
          by_cases c208 : y201 = y207
          ·
            replace hm := ite_T c208 hm
            obtain ⟨y214, e213, hm⟩ := bnd_some hm
            obtain ⟨y224, e223, hm⟩ := bnd_some hm
            obtain ⟨y234, e233, hm⟩ := bnd_some hm
            by_cases c235 : y234 = true
            ·
              replace hm := ite_T c235 hm
              obtain ⟨y241, e240, hm⟩ := bnd_some hm
              obtain ⟨y247, e246, hm⟩ := bnd_some hm
              by_cases c248 : (y241 == y247) = true
              ·
                replace hm := ite_T c248 hm
                obtain ⟨y254, e253, hm⟩ := bnd_some hm
                by_cases c255 : y254 = true
                ·
                  replace hm := ite_T c255 hm
                  obtain ⟨y261, e260, hm⟩ := bnd_some hm
                  refine J.drawB [b61, b83] [] ?_
                  first | refine JD.calc 0 (by kernel_rfl) rfl trivial ss_subB (q_mvv (v := .bool _) rfl) ?_ | refine JD.calc 0 (by kernel_rfl) rfl trivial ss_subB (q_mv) ?_
                  first | refine JD.calc 1 (by kernel_rfl) rfl trivial ss_subB (q_mvv (v := .bool _) rfl) ?_ | refine JD.calc 1 (by kernel_rfl) rfl trivial ss_subB (q_mv) ?_
                  refine JD.loadB 2 (by kernel_rfl) rfl ⟨_, rfl, (congrArg Value.bool c168)⟩ (q_lda (vs := [_, _, _]) rfl inferInstance ⟨rfl, rfl, rfl, trivial⟩) ?_
                  refine JD.loadB 4 (by kernel_rfl) rfl ⟨_, rfl, (congrArg Value.bool c168)⟩ (q_lda (vs := [_, _, _]) rfl inferInstance ⟨rfl, rfl, rfl, trivial⟩) ?_
                  refine JD.one 3 (by kernel_rfl) ?_
                  refine JX.effB rfl rfl ⟨_, rfl, (congrArg Value.bool c168)⟩ ?_
                  refine o_call (sparse_Transpose_fn ⟨_, rfl, ⟨_, _, _, rfl, Sls.mono f60⟩⟩ e173) (fun v169 h170 s171 r172 => ?_)
                  obtain ⟨_, rfl, p175, n176, c177, rfl, f178⟩ := r172
                  refine JL.nil ⟨rfl, inferInstance, inferInstance, ?_⟩
                  refine JD.one 5 (by kernel_rfl) ?_
                  refine JX.effB rfl rfl ⟨_, rfl, (congrArg Value.bool c168)⟩ ?_
                  refine o_call (torsionref06_Transpose_fn ⟨_, rfl, ⟨_, _, _, rfl, Sls.mono f60⟩⟩ e183) (fun v179 h180 s181 r182 => ?_)
                  obtain ⟨_, rfl, p185, n186, c187, rfl, f188⟩ := r182
                  refine JL.nil ⟨rfl, inferInstance, inferInstance, ?_⟩
                  refine JD.one 6 (by kernel_rfl) ?_
                  refine JX.effB rfl rfl ⟨_, rfl, (congrArg Value.bool c168)⟩ ?_
                  refine o_call (torsionref06_Equal_fn ⟨_, rfl, ⟨_, _, _, rfl, Sls.mono f178⟩⟩ ⟨_, rfl, ⟨_, _, _, rfl, Sls.mono f188⟩⟩ e193) (fun v189 h190 s191 r192 => ?_)
                  obtain rfl := (show _ = _ from r192)
                  refine JL.nil ⟨rfl, inferInstance, inferInstance, ?_⟩
                  first | refine JD.calc 7 (by kernel_rfl) rfl trivial ss_subB (q_pickTv (v := .bool _) rfl c168 rfl) ?_ | refine JD.calc 7 (by kernel_rfl) rfl trivial ss_subB (q_pickT rfl c168) ?_
                  first | refine JD.calc 8 (by kernel_rfl) rfl trivial ss_subB (q_mvv (v := .bool _) rfl) ?_ | refine JD.calc 8 (by kernel_rfl) rfl trivial ss_subB (q_mv) ?_
                  refine JD.loadB 9 (by kernel_rfl) rfl ⟨_, rfl, (congrArg Value.bool c195)⟩ (q_lda (vs := [_, _, _]) rfl inferInstance ⟨rfl, rfl, rfl, trivial⟩) ?_
                  refine JD.loadB 11 (by kernel_rfl) rfl ⟨_, rfl, (congrArg Value.bool c195)⟩ (q_lda (vs := [_, _, _]) rfl inferInstance ⟨rfl, rfl, rfl, trivial⟩) ?_
                  refine JD.one 10 (by kernel_rfl) ?_
                  refine JX.effB rfl rfl ⟨_, rfl, (congrArg Value.bool c195)⟩ ?_
                  refine o_call (sparse_Nonzero_fn ⟨_, rfl, ⟨_, _, _, rfl, Sls.mono f60⟩⟩ e200) (fun v196 h197 s198 r199 => ?_)
                  obtain rfl := (show _ = _ from r199)
                  refine JL.nil ⟨rfl, inferInstance, inferInstance, ?_⟩
                  refine JD.one 12 (by kernel_rfl) ?_
                  refine JX.effB rfl rfl ⟨_, rfl, (congrArg Value.bool c195)⟩ ?_
                  refine o_call (torsionref06_Nonzero_fn ⟨_, rfl, ⟨_, _, _, rfl, Sls.mono f60⟩⟩ e206) (fun v202 h203 s204 r205 => ?_)
                  obtain rfl := (show _ = _ from r205)
                  refine JL.nil ⟨rfl, inferInstance, inferInstance, ?_⟩
                  refine JD.calc 13 (by kernel_rfl) rfl ⟨_, rfl, (congrArg Value.bool c195)⟩ ss_subB (q_eql rfl rfl) ?_
                  first | refine JD.calc 14 (by kernel_rfl) rfl trivial ss_subB (q_pickTv (v := .bool _) rfl c195 rfl) ?_ | refine JD.calc 14 (by kernel_rfl) rfl trivial ss_subB (q_pickT rfl c195) ?_
                  first | refine JD.calc 15 (by kernel_rfl) rfl trivial ss_subB (q_mvv (v := .bool _) rfl) ?_ | refine JD.calc 15 (by kernel_rfl) rfl trivial ss_subB (q_mv) ?_
                  refine JD.loadB 16 (by kernel_rfl) rfl ⟨_, rfl, (congrArg Value.bool (decide_eq_true c208))⟩ (q_lda (vs := [_, _, _]) rfl inferInstance ⟨rfl, rfl, rfl, trivial⟩) ?_
                  refine JD.loadB 19 (by kernel_rfl) rfl ⟨_, rfl, (congrArg Value.bool (decide_eq_true c208))⟩ (q_lda (vs := [_, _, _]) rfl inferInstance ⟨rfl, rfl, rfl, trivial⟩) ?_
                  refine JD.one 17 (by kernel_rfl) ?_
                  refine JX.effB rfl rfl ⟨_, rfl, (congrArg Value.bool (decide_eq_true c208))⟩ ?_
                  refine o_call (torsionref06_To_fn ⟨_, rfl, ⟨_, _, _, rfl, Sls.mono f60⟩⟩ e213) (fun v209 h210 s211 r212 => ?_)
                  obtain ⟨_, rfl, p215, n216, c217, rfl, f218⟩ := r212
                  refine JL.nil ⟨rfl, inferInstance, inferInstance, ?_⟩
                  refine JD.one 18 (by kernel_rfl) ?_
                  refine JX.effB rfl rfl ⟨_, rfl, (congrArg Value.bool (decide_eq_true c208))⟩ ?_
                  refine o_call (sparse_From_fn ⟨_, rfl, ⟨_, _, _, rfl, Sls.mono f218⟩⟩ e223) (fun v219 h220 s221 r222 => ?_)
                  obtain ⟨_, rfl, p225, n226, c227, rfl, f228⟩ := r222
                  refine JL.nil ⟨rfl, inferInstance, inferInstance, ?_⟩
                  refine JD.one 20 (by kernel_rfl) ?_
                  refine JX.effB rfl rfl ⟨_, rfl, (congrArg Value.bool (decide_eq_true c208))⟩ ?_
                  refine o_call (torsionref06_Equal_fn ⟨_, rfl, ⟨_, _, _, rfl, Sls.mono f228⟩⟩ ⟨_, rfl, ⟨_, _, _, rfl, Sls.mono f60⟩⟩ e233) (fun v229 h230 s231 r232 => ?_)
                  obtain rfl := (show _ = _ from r232)
                  refine JL.nil ⟨rfl, inferInstance, inferInstance, ?_⟩
                  first | refine JD.calc 21 (by kernel_rfl) rfl trivial ss_subB (q_pickTv (v := .bool _) rfl (decide_eq_true c208) rfl) ?_ | refine JD.calc 21 (by kernel_rfl) rfl trivial ss_subB (q_pickT rfl (decide_eq_true c208)) ?_
                  first | refine JD.calc 22 (by kernel_rfl) rfl trivial ss_subB (q_mvv (v := .bool _) rfl) ?_ | refine JD.calc 22 (by kernel_rfl) rfl trivial ss_subB (q_mv) ?_
                  refine JD.loadB 23 (by kernel_rfl) rfl ⟨_, rfl, (congrArg Value.bool c235)⟩ (q_lda (vs := [_, _, _]) rfl inferInstance ⟨rfl, rfl, rfl, trivial⟩) ?_
                  refine JD.loadB 24 (by kernel_rfl) rfl ⟨_, rfl, (congrArg Value.bool c235)⟩ (q_lda (vs := [_, _, _]) rfl inferInstance ⟨rfl, rfl, rfl, trivial⟩) ?_
                  refine JD.loadB 26 (by kernel_rfl) rfl ⟨_, rfl, (congrArg Value.bool c235)⟩ (q_lda (vs := [_, _, _]) rfl inferInstance ⟨rfl, rfl, rfl, trivial⟩) ?_
                  refine JD.loadB 27 (by kernel_rfl) rfl ⟨_, rfl, (congrArg Value.bool c235)⟩ (q_lda (vs := [_, _, _]) rfl inferInstance ⟨rfl, rfl, rfl, trivial⟩) ?_
                  refine JD.one 25 (by kernel_rfl) ?_
                  refine JX.effB rfl rfl ⟨_, rfl, (congrArg Value.bool c235)⟩ ?_
                  refine o_call (sparse_Equal_fn ⟨_, rfl, ⟨_, _, _, rfl, Sls.mono f60⟩⟩ ⟨_, rfl, ⟨_, _, _, rfl, Sls.mono f82⟩⟩ e240) (fun v236 h237 s238 r239 => ?_)
                  obtain rfl := (show _ = _ from r239)
                  refine JL.nil ⟨rfl, inferInstance, inferInstance, ?_⟩
                  refine JD.one 28 (by kernel_rfl) ?_
                  refine JX.effB rfl rfl ⟨_, rfl, (congrArg Value.bool c235)⟩ ?_
                  refine o_call (torsionref06_Equal_fn ⟨_, rfl, ⟨_, _, _, rfl, Sls.mono f60⟩⟩ ⟨_, rfl, ⟨_, _, _, rfl, Sls.mono f82⟩⟩ e246) (fun v242 h243 s244 r245 => ?_)
                  obtain rfl := (show _ = _ from r245)
                  refine JL.nil ⟨rfl, inferInstance, inferInstance, ?_⟩
                  refine JD.calc 29 (by kernel_rfl) rfl ⟨_, rfl, (congrArg Value.bool c235)⟩ ss_subB (q_beq rfl rfl) ?_
                  first | refine JD.calc 30 (by kernel_rfl) rfl trivial ss_subB (q_pickTv (v := .bool _) rfl c235 rfl) ?_ | refine JD.calc 30 (by kernel_rfl) rfl trivial ss_subB (q_pickT rfl c235) ?_
                  first | refine JD.calc 31 (by kernel_rfl) rfl trivial ss_subB (q_mvv (v := .bool _) rfl) ?_ | refine JD.calc 31 (by kernel_rfl) rfl trivial ss_subB (q_mv) ?_
                  refine JD.loadB 32 (by kernel_rfl) rfl ⟨_, rfl, (congrArg Value.bool c248)⟩ (q_lda (vs := [_, _, _]) rfl inferInstance ⟨rfl, rfl, rfl, trivial⟩) ?_
                  refine JD.loadB 33 (by kernel_rfl) rfl ⟨_, rfl, (congrArg Value.bool c248)⟩ (q_lda (vs := [_, _, _]) rfl inferInstance ⟨rfl, rfl, rfl, trivial⟩) ?_
                  refine JD.one 34 (by kernel_rfl) ?_
                  refine JX.effB rfl rfl ⟨_, rfl, (congrArg Value.bool c248)⟩ ?_
                  refine o_call (sparse_Equal_fn ⟨_, rfl, ⟨_, _, _, rfl, Sls.mono f60⟩⟩ ⟨_, rfl, ⟨_, _, _, rfl, Sls.mono f60⟩⟩ e253) (fun v249 h250 s251 r252 => ?_)
                  obtain rfl := (show _ = _ from r252)
                  refine JL.nil ⟨rfl, inferInstance, inferInstance, ?_⟩
                  first | refine JD.calc 35 (by kernel_rfl) rfl trivial ss_subB (q_pickTv (v := .bool _) rfl c248 rfl) ?_ | refine JD.calc 35 (by kernel_rfl) rfl trivial ss_subB (q_pickT rfl c248) ?_
                  first | refine JD.calc 36 (by kernel_rfl) rfl trivial ss_subB (q_mvv (v := .bool _) rfl) ?_ | refine JD.calc 36 (by kernel_rfl) rfl trivial ss_subB (q_mv) ?_
                  refine JD.loadB 37 (by kernel_rfl) rfl ⟨_, rfl, (congrArg Value.bool c255)⟩ (q_lda (vs := [_, _, _]) rfl inferInstance ⟨rfl, rfl, rfl, trivial⟩) ?_
                  refine JD.one 38 (by kernel_rfl) ?_
                  refine JX.effB rfl rfl ⟨_, rfl, (congrArg Value.bool c255)⟩ ?_
                  refine o_call (sparse_Valid_fn ⟨_, rfl, ⟨_, _, _, rfl, Sls.mono f60⟩⟩ e260) (fun v256 h257 s258 r259 => ?_)
                  obtain rfl := (show _ = _ from r259)
                  refine JL.nil ⟨rfl, inferInstance, inferInstance, ?_⟩
                  first | refine JD.calc 39 (by kernel_rfl) rfl trivial ss_subB (q_pickTv (v := .bool _) rfl c255 rfl) ?_ | refine JD.calc 39 (by kernel_rfl) rfl trivial ss_subB (q_pickT rfl c255) ?_
                  first | refine JD.calc 40 (by kernel_rfl) rfl trivial ss_subB (q_asv (v := .bool _) rfl) ?_ | refine JD.calc 40 (by kernel_rfl) rfl trivial ss_subB (q_as) ?_
                  refine JD.done (by kernel_rfl) ?_ _
                  --
                  refine J.ret ?_
                  obtain rfl := Option.some.inj hm
                  exact ret_ok (fn := Try.f8) rfl (.tmp rfl .nil) rfl
                ·
                  replace hm := ite_F c255 hm
                  refine J.drawB [b61, b83] [] ?_
                  first | refine JD.calc 0 (by kernel_rfl) rfl trivial ss_subB (q_mvv (v := .bool _) rfl) ?_ | refine JD.calc 0 (by kernel_rfl) rfl trivial ss_subB (q_mv) ?_
                  first | refine JD.calc 1 (by kernel_rfl) rfl trivial ss_subB (q_mvv (v := .bool _) rfl) ?_ | refine JD.calc 1 (by kernel_rfl) rfl trivial ss_subB (q_mv) ?_
                  refine JD.loadB 2 (by kernel_rfl) rfl ⟨_, rfl, (congrArg Value.bool c168)⟩ (q_lda (vs := [_, _, _]) rfl inferInstance ⟨rfl, rfl, rfl, trivial⟩) ?_
                  refine JD.loadB 4 (by kernel_rfl) rfl ⟨_, rfl, (congrArg Value.bool c168)⟩ (q_lda (vs := [_, _, _]) rfl inferInstance ⟨rfl, rfl, rfl, trivial⟩) ?_
                  refine JD.one 3 (by kernel_rfl) ?_
                  refine JX.effB rfl rfl ⟨_, rfl, (congrArg Value.bool c168)⟩ ?_
                  refine o_call (sparse_Transpose_fn ⟨_, rfl, ⟨_, _, _, rfl, Sls.mono f60⟩⟩ e173) (fun v169 h170 s171 r172 => ?_)
                  obtain ⟨_, rfl, p175, n176, c177, rfl, f178⟩ := r172
                  refine JL.nil ⟨rfl, inferInstance, inferInstance, ?_⟩
                  refine JD.one 5 (by kernel_rfl) ?_
                  refine JX.effB rfl rfl ⟨_, rfl, (congrArg Value.bool c168)⟩ ?_
                  refine o_call (torsionref06_Transpose_fn ⟨_, rfl, ⟨_, _, _, rfl, Sls.mono f60⟩⟩ e183) (fun v179 h180 s181 r182 => ?_)
                  obtain ⟨_, rfl, p185, n186, c187, rfl, f188⟩ := r182
                  refine JL.nil ⟨rfl, inferInstance, inferInstance, ?_⟩
                  refine JD.one 6 (by kernel_rfl) ?_
                  refine JX.effB rfl rfl ⟨_, rfl, (congrArg Value.bool c168)⟩ ?_
                  refine o_call (torsionref06_Equal_fn ⟨_, rfl, ⟨_, _, _, rfl, Sls.mono f178⟩⟩ ⟨_, rfl, ⟨_, _, _, rfl, Sls.mono f188⟩⟩ e193) (fun v189 h190 s191 r192 => ?_)
                  obtain rfl := (show _ = _ from r192)
                  refine JL.nil ⟨rfl, inferInstance, inferInstance, ?_⟩
                  first | refine JD.calc 7 (by kernel_rfl) rfl trivial ss_subB (q_pickTv (v := .bool _) rfl c168 rfl) ?_ | refine JD.calc 7 (by kernel_rfl) rfl trivial ss_subB (q_pickT rfl c168) ?_
                  first | refine JD.calc 8 (by kernel_rfl) rfl trivial ss_subB (q_mvv (v := .bool _) rfl) ?_ | refine JD.calc 8 (by kernel_rfl) rfl trivial ss_subB (q_mv) ?_
                  refine JD.loadB 9 (by kernel_rfl) rfl ⟨_, rfl, (congrArg Value.bool c195)⟩ (q_lda (vs := [_, _, _]) rfl inferInstance ⟨rfl, rfl, rfl, trivial⟩) ?_
                  refine JD.loadB 11 (by kernel_rfl) rfl ⟨_, rfl, (congrArg Value.bool c195)⟩ (q_lda (vs := [_, _, _]) rfl inferInstance ⟨rfl, rfl, rfl, trivial⟩) ?_
                  refine JD.one 10 (by kernel_rfl) ?_
                  refine JX.effB rfl rfl ⟨_, rfl, (congrArg Value.bool c195)⟩ ?_
                  refine o_call (sparse_Nonzero_fn ⟨_, rfl, ⟨_, _, _, rfl, Sls.mono f60⟩⟩ e200) (fun v196 h197 s198 r199 => ?_)
                  obtain rfl := (show _ = _ from r199)
                  refine JL.nil ⟨rfl, inferInstance, inferInstance, ?_⟩
                  refine JD.one 12 (by kernel_rfl) ?_
                  refine JX.effB rfl rfl ⟨_, rfl, (congrArg Value.bool c195)⟩ ?_
                  refine o_call (torsionref06_Nonzero_fn ⟨_, rfl, ⟨_, _, _, rfl, Sls.mono f60⟩⟩ e206) (fun v202 h203 s204 r205 => ?_)
                  obtain rfl := (show _ = _ from r205)
                  refine JL.nil ⟨rfl, inferInstance, inferInstance, ?_⟩
                  refine JD.calc 13 (by kernel_rfl) rfl ⟨_, rfl, (congrArg Value.bool c195)⟩ ss_subB (q_eql rfl rfl) ?_
                  first | refine JD.calc 14 (by kernel_rfl) rfl trivial ss_subB (q_pickTv (v := .bool _) rfl c195 rfl) ?_ | refine JD.calc 14 (by kernel_rfl) rfl trivial ss_subB (q_pickT rfl c195) ?_
                  first | refine JD.calc 15 (by kernel_rfl) rfl trivial ss_subB (q_mvv (v := .bool _) rfl) ?_ | refine JD.calc 15 (by kernel_rfl) rfl trivial ss_subB (q_mv) ?_
                  refine JD.loadB 16 (by kernel_rfl) rfl ⟨_, rfl, (congrArg Value.bool (decide_eq_true c208))⟩ (q_lda (vs := [_, _, _]) rfl inferInstance ⟨rfl, rfl, rfl, trivial⟩) ?_
                  refine JD.loadB 19 (by kernel_rfl) rfl ⟨_, rfl, (congrArg Value.bool (decide_eq_true c208))⟩ (q_lda (vs := [_, _, _]) rfl inferInstance ⟨rfl, rfl, rfl, trivial⟩) ?_
                  refine JD.one 17 (by kernel_rfl) ?_
                  refine JX.effB rfl rfl ⟨_, rfl, (congrArg Value.bool (decide_eq_true c208))⟩ ?_
                  refine o_call (torsionref06_To_fn ⟨_, rfl, ⟨_, _, _, rfl, Sls.mono f60⟩⟩ e213) (fun v209 h210 s211 r212 => ?_)
                  obtain ⟨_, rfl, p215, n216, c217, rfl, f218⟩ := r212
                  refine JL.nil ⟨rfl, inferInstance, inferInstance, ?_⟩
                  refine JD.one 18 (by kernel_rfl) ?_
                  refine JX.effB rfl rfl ⟨_, rfl, (congrArg Value.bool (decide_eq_true c208))⟩ ?_
                  refine o_call (sparse_From_fn ⟨_, rfl, ⟨_, _, _, rfl, Sls.mono f218⟩⟩ e223) (fun v219 h220 s221 r222 => ?_)
                  obtain ⟨_, rfl, p225, n226, c227, rfl, f228⟩ := r222
                  refine JL.nil ⟨rfl, inferInstance, inferInstance, ?_⟩
                  refine JD.one 20 (by kernel_rfl) ?_
                  refine JX.effB rfl rfl ⟨_, rfl, (congrArg Value.bool (decide_eq_true c208))⟩ ?_
                  refine o_call (torsionref06_Equal_fn ⟨_, rfl, ⟨_, _, _, rfl, Sls.mono f228⟩⟩ ⟨_, rfl, ⟨_, _, _, rfl, Sls.mono f60⟩⟩ e233) (fun v229 h230 s231 r232 => ?_)
                  obtain rfl := (show _ = _ from r232)
                  refine JL.nil ⟨rfl, inferInstance, inferInstance, ?_⟩
                  first | refine JD.calc 21 (by kernel_rfl) rfl trivial ss_subB (q_pickTv (v := .bool _) rfl (decide_eq_true c208) rfl) ?_ | refine JD.calc 21 (by kernel_rfl) rfl trivial ss_subB (q_pickT rfl (decide_eq_true c208)) ?_
                  first | refine JD.calc 22 (by kernel_rfl) rfl trivial ss_subB (q_mvv (v := .bool _) rfl) ?_ | refine JD.calc 22 (by kernel_rfl) rfl trivial ss_subB (q_mv) ?_
                  refine JD.loadB 23 (by kernel_rfl) rfl ⟨_, rfl, (congrArg Value.bool c235)⟩ (q_lda (vs := [_, _, _]) rfl inferInstance ⟨rfl, rfl, rfl, trivial⟩) ?_
                  refine JD.loadB 24 (by kernel_rfl) rfl ⟨_, rfl, (congrArg Value.bool c235)⟩ (q_lda (vs := [_, _, _]) rfl inferInstance ⟨rfl, rfl, rfl, trivial⟩) ?_
                  refine JD.loadB 26 (by kernel_rfl) rfl ⟨_, rfl, (congrArg Value.bool c235)⟩ (q_lda (vs := [_, _, _]) rfl inferInstance ⟨rfl, rfl, rfl, trivial⟩) ?_
                  refine JD.loadB 27 (by kernel_rfl) rfl ⟨_, rfl, (congrArg Value.bool c235)⟩ (q_lda (vs := [_, _, _]) rfl inferInstance ⟨rfl, rfl, rfl, trivial⟩) ?_
                  refine JD.one 25 (by kernel_rfl) ?_
                  refine JX.effB rfl rfl ⟨_, rfl, (congrArg Value.bool c235)⟩ ?_
                  refine o_call (sparse_Equal_fn ⟨_, rfl, ⟨_, _, _, rfl, Sls.mono f60⟩⟩ ⟨_, rfl, ⟨_, _, _, rfl, Sls.mono f82⟩⟩ e240) (fun v236 h237 s238 r239 => ?_)
                  obtain rfl := (show _ = _ from r239)
                  refine JL.nil ⟨rfl, inferInstance, inferInstance, ?_⟩
                  refine JD.one 28 (by kernel_rfl) ?_
                  refine JX.effB rfl rfl ⟨_, rfl, (congrArg Value.bool c235)⟩ ?_
                  refine o_call (torsionref06_Equal_fn ⟨_, rfl, ⟨_, _, _, rfl, Sls.mono f60⟩⟩ ⟨_, rfl, ⟨_, _, _, rfl, Sls.mono f82⟩⟩ e246) (fun v242 h243 s244 r245 => ?_)
                  obtain rfl := (show _ = _ from r245)
                  refine JL.nil ⟨rfl, inferInstance, inferInstance, ?_⟩
                  refine JD.calc 29 (by kernel_rfl) rfl ⟨_, rfl, (congrArg Value.bool c235)⟩ ss_subB (q_beq rfl rfl) ?_
                  first | refine JD.calc 30 (by kernel_rfl) rfl trivial ss_subB (q_pickTv (v := .bool _) rfl c235 rfl) ?_ | refine JD.calc 30 (by kernel_rfl) rfl trivial ss_subB (q_pickT rfl c235) ?_
                  first | refine JD.calc 31 (by kernel_rfl) rfl trivial ss_subB (q_mvv (v := .bool _) rfl) ?_ | refine JD.calc 31 (by kernel_rfl) rfl trivial ss_subB (q_mv) ?_
                  refine JD.loadB 32 (by kernel_rfl) rfl ⟨_, rfl, (congrArg Value.bool c248)⟩ (q_lda (vs := [_, _, _]) rfl inferInstance ⟨rfl, rfl, rfl, trivial⟩) ?_
                  refine JD.loadB 33 (by kernel_rfl) rfl ⟨_, rfl, (congrArg Value.bool c248)⟩ (q_lda (vs := [_, _, _]) rfl inferInstance ⟨rfl, rfl, rfl, trivial⟩) ?_
                  refine JD.one 34 (by kernel_rfl) ?_
                  refine JX.effB rfl rfl ⟨_, rfl, (congrArg Value.bool c248)⟩ ?_
                  refine o_call (sparse_Equal_fn ⟨_, rfl, ⟨_, _, _, rfl, Sls.mono f60⟩⟩ ⟨_, rfl, ⟨_, _, _, rfl, Sls.mono f60⟩⟩ e253) (fun v249 h250 s251 r252 => ?_)
                  obtain rfl := (show _ = _ from r252)
                  refine JL.nil ⟨rfl, inferInstance, inferInstance, ?_⟩
                  first | refine JD.calc 35 (by kernel_rfl) rfl trivial ss_subB (q_pickTv (v := .bool _) rfl c248 rfl) ?_ | refine JD.calc 35 (by kernel_rfl) rfl trivial ss_subB (q_pickT rfl c248) ?_
                  first | refine JD.calc 36 (by kernel_rfl) rfl trivial ss_subB (q_mvv (v := .bool _) rfl) ?_ | refine JD.calc 36 (by kernel_rfl) rfl trivial ss_subB (q_mv) ?_
                  refine JD.pass 37 (by kernel_rfl) rfl rfl (congrArg Value.bool (eq_false_of_ne_true c255)) ss_subB ?_
                  refine JD.pass 38 (by kernel_rfl) rfl rfl (congrArg Value.bool (eq_false_of_ne_true c255)) ss_subB ?_
                  first | refine JD.calc 39 (by kernel_rfl) rfl trivial ss_subB (q_pickFv (v := .bool _) rfl (eq_false_of_ne_true c255) rfl) ?_ | refine JD.calc 39 (by kernel_rfl) rfl trivial ss_subB (q_pickF rfl (eq_false_of_ne_true c255)) ?_
                  first | refine JD.calc 40 (by kernel_rfl) rfl trivial ss_subB (q_asv (v := .bool _) rfl) ?_ | refine JD.calc 40 (by kernel_rfl) rfl trivial ss_subB (q_as) ?_
                  refine JD.done (by kernel_rfl) ?_ _
                  --
                  refine J.ret ?_
                  obtain rfl := Option.some.inj hm
                  exact ret_ok (fn := Try.f8) rfl (.tmp rfl .nil) rfl
              ·
                replace hm := ite_F c248 hm
                refine J.drawB [b61, b83] [] ?_
                first | refine JD.calc 0 (by kernel_rfl) rfl trivial ss_subB (q_mvv (v := .bool _) rfl) ?_ | refine JD.calc 0 (by kernel_rfl) rfl trivial ss_subB (q_mv) ?_
                first | refine JD.calc 1 (by kernel_rfl) rfl trivial ss_subB (q_mvv (v := .bool _) rfl) ?_ | refine JD.calc 1 (by kernel_rfl) rfl trivial ss_subB (q_mv) ?_
                refine JD.loadB 2 (by kernel_rfl) rfl ⟨_, rfl, (congrArg Value.bool c168)⟩ (q_lda (vs := [_, _, _]) rfl inferInstance ⟨rfl, rfl, rfl, trivial⟩) ?_
                refine JD.loadB 4 (by kernel_rfl) rfl ⟨_, rfl, (congrArg Value.bool c168)⟩ (q_lda (vs := [_, _, _]) rfl inferInstance ⟨rfl, rfl, rfl, trivial⟩) ?_
                refine JD.one 3 (by kernel_rfl) ?_
                refine JX.effB rfl rfl ⟨_, rfl, (congrArg Value.bool c168)⟩ ?_
                refine o_call (sparse_Transpose_fn ⟨_, rfl, ⟨_, _, _, rfl, Sls.mono f60⟩⟩ e173) (fun v169 h170 s171 r172 => ?_)
                obtain ⟨_, rfl, p175, n176, c177, rfl, f178⟩ := r172
                refine JL.nil ⟨rfl, inferInstance, inferInstance, ?_⟩
                refine JD.one 5 (by kernel_rfl) ?_
                refine JX.effB rfl rfl ⟨_, rfl, (congrArg Value.bool c168)⟩ ?_
                refine o_call (torsionref06_Transpose_fn ⟨_, rfl, ⟨_, _, _, rfl, Sls.mono f60⟩⟩ e183) (fun v179 h180 s181 r182 => ?_)
                obtain ⟨_, rfl, p185, n186, c187, rfl, f188⟩ := r182
                refine JL.nil ⟨rfl, inferInstance, inferInstance, ?_⟩
                refine JD.one 6 (by kernel_rfl) ?_
                refine JX.effB rfl rfl ⟨_, rfl, (congrArg Value.bool c168)⟩ ?_
                refine o_call (torsionref06_Equal_fn ⟨_, rfl, ⟨_, _, _, rfl, Sls.mono f178⟩⟩ ⟨_, rfl, ⟨_, _, _, rfl, Sls.mono f188⟩⟩ e193) (fun v189 h190 s191 r192 => ?_)
                obtain rfl := (show _ = _ from r192)
                refine JL.nil ⟨rfl, inferInstance, inferInstance, ?_⟩
                first | refine JD.calc 7 (by kernel_rfl) rfl trivial ss_subB (q_pickTv (v := .bool _) rfl c168 rfl) ?_ | refine JD.calc 7 (by kernel_rfl) rfl trivial ss_subB (q_pickT rfl c168) ?_
                first | refine JD.calc 8 (by kernel_rfl) rfl trivial ss_subB (q_mvv (v := .bool _) rfl) ?_ | refine JD.calc 8 (by kernel_rfl) rfl trivial ss_subB (q_mv) ?_
                refine JD.loadB 9 (by kernel_rfl) rfl ⟨_, rfl, (congrArg Value.bool c195)⟩ (q_lda (vs := [_, _, _]) rfl inferInstance ⟨rfl, rfl, rfl, trivial⟩) ?_
                refine JD.loadB 11 (by kernel_rfl) rfl ⟨_, rfl, (congrArg Value.bool c195)⟩ (q_lda (vs := [_, _, _]) rfl inferInstance ⟨rfl, rfl, rfl, trivial⟩) ?_
                refine JD.one 10 (by kernel_rfl) ?_
                refine JX.effB rfl rfl ⟨_, rfl, (congrArg Value.bool c195)⟩ ?_
                refine o_call (sparse_Nonzero_fn ⟨_, rfl, ⟨_, _, _, rfl, Sls.mono f60⟩⟩ e200) (fun v196 h197 s198 r199 => ?_)
                obtain rfl := (show _ = _ from r199)
                refine JL.nil ⟨rfl, inferInstance, inferInstance, ?_⟩
                refine JD.one 12 (by kernel_rfl) ?_
                refine JX.effB rfl rfl ⟨_, rfl, (congrArg Value.bool c195)⟩ ?_
                refine o_call (torsionref06_Nonzero_fn ⟨_, rfl, ⟨_, _, _, rfl, Sls.mono f60⟩⟩ e206) (fun v202 h203 s204 r205 => ?_)
                obtain rfl := (show _ = _ from r205)
                refine JL.nil ⟨rfl, inferInstance, inferInstance, ?_⟩
                refine JD.calc 13 (by kernel_rfl) rfl ⟨_, rfl, (congrArg Value.bool c195)⟩ ss_subB (q_eql rfl rfl) ?_
                first | refine JD.calc 14 (by kernel_rfl) rfl trivial ss_subB (q_pickTv (v := .bool _) rfl c195 rfl) ?_ | refine JD.calc 14 (by kernel_rfl) rfl trivial ss_subB (q_pickT rfl c195) ?_
                first | refine JD.calc 15 (by kernel_rfl) rfl trivial ss_subB (q_mvv (v := .bool _) rfl) ?_ | refine JD.calc 15 (by kernel_rfl) rfl trivial ss_subB (q_mv) ?_
                refine JD.loadB 16 (by kernel_rfl) rfl ⟨_, rfl, (congrArg Value.bool (decide_eq_true c208))⟩ (q_lda (vs := [_, _, _]) rfl inferInstance ⟨rfl, rfl, rfl, trivial⟩) ?_
                refine JD.loadB 19 (by kernel_rfl) rfl ⟨_, rfl, (congrArg Value.bool (decide_eq_true c208))⟩ (q_lda (vs := [_, _, _]) rfl inferInstance ⟨rfl, rfl, rfl, trivial⟩) ?_
                refine JD.one 17 (by kernel_rfl) ?_
                refine JX.effB rfl rfl ⟨_, rfl, (congrArg Value.bool (decide_eq_true c208))⟩ ?_
                refine o_call (torsionref06_To_fn ⟨_, rfl, ⟨_, _, _, rfl, Sls.mono f60⟩⟩ e213) (fun v209 h210 s211 r212 => ?_)
                obtain ⟨_, rfl, p215, n216, c217, rfl, f218⟩ := r212
                refine JL.nil ⟨rfl, inferInstance, inferInstance, ?_⟩
                refine JD.one 18 (by kernel_rfl) ?_
                refine JX.effB rfl rfl ⟨_, rfl, (congrArg Value.bool (decide_eq_true c208))⟩ ?_
                refine o_call (sparse_From_fn ⟨_, rfl, ⟨_, _, _, rfl, Sls.mono f218⟩⟩ e223) (fun v219 h220 s221 r222 => ?_)
                obtain ⟨_, rfl, p225, n226, c227, rfl, f228⟩ := r222
                refine JL.nil ⟨rfl, inferInstance, inferInstance, ?_⟩
                refine JD.one 20 (by kernel_rfl) ?_
                refine JX.effB rfl rfl ⟨_, rfl, (congrArg Value.bool (decide_eq_true c208))⟩ ?_
                refine o_call (torsionref06_Equal_fn ⟨_, rfl, ⟨_, _, _, rfl, Sls.mono f228⟩⟩ ⟨_, rfl, ⟨_, _, _, rfl, Sls.mono f60⟩⟩ e233) (fun v229 h230 s231 r232 => ?_)
                obtain rfl := (show _ = _ from r232)
                refine JL.nil ⟨rfl, inferInstance, inferInstance, ?_⟩
                first | refine JD.calc 21 (by kernel_rfl) rfl trivial ss_subB (q_pickTv (v := .bool _) rfl (decide_eq_true c208) rfl) ?_ | refine JD.calc 21 (by kernel_rfl) rfl trivial ss_subB (q_pickT rfl (decide_eq_true c208)) ?_
                first | refine JD.calc 22 (by kernel_rfl) rfl trivial ss_subB (q_mvv (v := .bool _) rfl) ?_ | refine JD.calc 22 (by kernel_rfl) rfl trivial ss_subB (q_mv) ?_
                refine JD.loadB 23 (by kernel_rfl) rfl ⟨_, rfl, (congrArg Value.bool c235)⟩ (q_lda (vs := [_, _, _]) rfl inferInstance ⟨rfl, rfl, rfl, trivial⟩) ?_
                refine JD.loadB 24 (by kernel_rfl) rfl ⟨_, rfl, (congrArg Value.bool c235)⟩ (q_lda (vs := [_, _, _]) rfl inferInstance ⟨rfl, rfl, rfl, trivial⟩) ?_
                refine JD.loadB 26 (by kernel_rfl) rfl ⟨_, rfl, (congrArg Value.bool c235)⟩ (q_lda (vs := [_, _, _]) rfl inferInstance ⟨rfl, rfl, rfl, trivial⟩) ?_
                refine JD.loadB 27 (by kernel_rfl) rfl ⟨_, rfl, (congrArg Value.bool c235)⟩ (q_lda (vs := [_, _, _]) rfl inferInstance ⟨rfl, rfl, rfl, trivial⟩) ?_
                refine JD.one 25 (by kernel_rfl) ?_
                refine JX.effB rfl rfl ⟨_, rfl, (congrArg Value.bool c235)⟩ ?_
                refine o_call (sparse_Equal_fn ⟨_, rfl, ⟨_, _, _, rfl, Sls.mono f60⟩⟩ ⟨_, rfl, ⟨_, _, _, rfl, Sls.mono f82⟩⟩ e240) (fun v236 h237 s238 r239 => ?_)
                obtain rfl := (show _ = _ from r239)
                refine JL.nil ⟨rfl, inferInstance, inferInstance, ?_⟩
                refine JD.one 28 (by kernel_rfl) ?_
                refine JX.effB rfl rfl ⟨_, rfl, (congrArg Value.bool c235)⟩ ?_
                refine o_call (torsionref06_Equal_fn ⟨_, rfl, ⟨_, _, _, rfl, Sls.mono f60⟩⟩ ⟨_, rfl, ⟨_, _, _, rfl, Sls.mono f82⟩⟩ e246) (fun v242 h243 s244 r245 => ?_)
                obtain rfl := (show _ = _ from r245)
                refine JL.nil ⟨rfl, inferInstance, inferInstance, ?_⟩
                refine JD.calc 29 (by kernel_rfl) rfl ⟨_, rfl, (congrArg Value.bool c235)⟩ ss_subB (q_beq rfl rfl) ?_
                first | refine JD.calc 30 (by kernel_rfl) rfl trivial ss_subB (q_pickTv (v := .bool _) rfl c235 rfl) ?_ | refine JD.calc 30 (by kernel_rfl) rfl trivial ss_subB (q_pickT rfl c235) ?_
                first | refine JD.calc 31 (by kernel_rfl) rfl trivial ss_subB (q_mvv (v := .bool _) rfl) ?_ | refine JD.calc 31 (by kernel_rfl) rfl trivial ss_subB (q_mv) ?_
                refine JD.pass 32 (by kernel_rfl) rfl rfl (congrArg Value.bool (eq_false_of_ne_true c248)) ss_subB ?_
                refine JD.pass 33 (by kernel_rfl) rfl rfl (congrArg Value.bool (eq_false_of_ne_true c248)) ss_subB ?_
                refine JD.pass 34 (by kernel_rfl) rfl rfl (congrArg Value.bool (eq_false_of_ne_true c248)) ss_subB ?_
                first | refine JD.calc 35 (by kernel_rfl) rfl trivial ss_subB (q_pickFv (v := .bool _) rfl (eq_false_of_ne_true c248) rfl) ?_ | refine JD.calc 35 (by kernel_rfl) rfl trivial ss_subB (q_pickF rfl (eq_false_of_ne_true c248)) ?_
                first | refine JD.calc 36 (by kernel_rfl) rfl trivial ss_subB (q_mvv (v := .bool _) rfl) ?_ | refine JD.calc 36 (by kernel_rfl) rfl trivial ss_subB (q_mv) ?_
                refine JD.pass 37 (by kernel_rfl) rfl rfl rfl ss_subB ?_
                refine JD.pass 38 (by kernel_rfl) rfl rfl rfl ss_subB ?_
                first | refine JD.calc 39 (by kernel_rfl) rfl trivial ss_subB (q_pickFv (v := .bool _) rfl rfl rfl) ?_ | refine JD.calc 39 (by kernel_rfl) rfl trivial ss_subB (q_pickF rfl rfl) ?_
                first | refine JD.calc 40 (by kernel_rfl) rfl trivial ss_subB (q_asv (v := .bool _) rfl) ?_ | refine JD.calc 40 (by kernel_rfl) rfl trivial ss_subB (q_as) ?_
                refine JD.done (by kernel_rfl) ?_ _
                --
                refine J.ret ?_
                obtain rfl := Option.some.inj hm
                exact ret_ok (fn := Try.f8) rfl (.tmp rfl .nil) rfl
            ·
              replace hm := ite_F c235 hm
              refine J.drawB [b61] [] ?_
              first | refine JD.calc 0 (by kernel_rfl) rfl trivial ss_subB (q_mvv (v := .bool _) rfl) ?_ | refine JD.calc 0 (by kernel_rfl) rfl trivial ss_subB (q_mv) ?_
              first | refine JD.calc 1 (by kernel_rfl) rfl trivial ss_subB (q_mvv (v := .bool _) rfl) ?_ | refine JD.calc 1 (by kernel_rfl) rfl trivial ss_subB (q_mv) ?_
              refine JD.loadB 2 (by kernel_rfl) rfl ⟨_, rfl, (congrArg Value.bool c168)⟩ (q_lda (vs := [_, _, _]) rfl inferInstance ⟨rfl, rfl, rfl, trivial⟩) ?_
              refine JD.loadB 4 (by kernel_rfl) rfl ⟨_, rfl, (congrArg Value.bool c168)⟩ (q_lda (vs := [_, _, _]) rfl inferInstance ⟨rfl, rfl, rfl, trivial⟩) ?_
              refine JD.one 3 (by kernel_rfl) ?_
              refine JX.effB rfl rfl ⟨_, rfl, (congrArg Value.bool c168)⟩ ?_
              refine o_call (sparse_Transpose_fn ⟨_, rfl, ⟨_, _, _, rfl, Sls.mono f60⟩⟩ e173) (fun v169 h170 s171 r172 => ?_)
              obtain ⟨_, rfl, p175, n176, c177, rfl, f178⟩ := r172
              refine JL.nil ⟨rfl, inferInstance, inferInstance, ?_⟩
              refine JD.one 5 (by kernel_rfl) ?_
              refine JX.effB rfl rfl ⟨_, rfl, (congrArg Value.bool c168)⟩ ?_
              refine o_call (torsionref06_Transpose_fn ⟨_, rfl, ⟨_, _, _, rfl, Sls.mono f60⟩⟩ e183) (fun v179 h180 s181 r182 => ?_)
              obtain ⟨_, rfl, p185, n186, c187, rfl, f188⟩ := r182
              refine JL.nil ⟨rfl, inferInstance, inferInstance, ?_⟩
              refine JD.one 6 (by kernel_rfl) ?_
              refine JX.effB rfl rfl ⟨_, rfl, (congrArg Value.bool c168)⟩ ?_
              refine o_call (torsionref06_Equal_fn ⟨_, rfl, ⟨_, _, _, rfl, Sls.mono f178⟩⟩ ⟨_, rfl, ⟨_, _, _, rfl, Sls.mono f188⟩⟩ e193) (fun v189 h190 s191 r192 => ?_)
              obtain rfl := (show _ = _ from r192)
              refine JL.nil ⟨rfl, inferInstance, inferInstance, ?_⟩
              first | refine JD.calc 7 (by kernel_rfl) rfl trivial ss_subB (q_pickTv (v := .bool _) rfl c168 rfl) ?_ | refine JD.calc 7 (by kernel_rfl) rfl trivial ss_subB (q_pickT rfl c168) ?_
              first | refine JD.calc 8 (by kernel_rfl) rfl trivial ss_subB (q_mvv (v := .bool _) rfl) ?_ | refine JD.calc 8 (by kernel_rfl) rfl trivial ss_subB (q_mv) ?_
              refine JD.loadB 9 (by kernel_rfl) rfl ⟨_, rfl, (congrArg Value.bool c195)⟩ (q_lda (vs := [_, _, _]) rfl inferInstance ⟨rfl, rfl, rfl, trivial⟩) ?_
              refine JD.loadB 11 (by kernel_rfl) rfl ⟨_, rfl, (congrArg Value.bool c195)⟩ (q_lda (vs := [_, _, _]) rfl inferInstance ⟨rfl, rfl, rfl, trivial⟩) ?_
              refine JD.one 10 (by kernel_rfl) ?_
              refine JX.effB rfl rfl ⟨_, rfl, (congrArg Value.bool c195)⟩ ?_
              refine o_call (sparse_Nonzero_fn ⟨_, rfl, ⟨_, _, _, rfl, Sls.mono f60⟩⟩ e200) (fun v196 h197 s198 r199 => ?_)
              obtain rfl := (show _ = _ from r199)
              refine JL.nil ⟨rfl, inferInstance, inferInstance, ?_⟩
              refine JD.one 12 (by kernel_rfl) ?_
              refine JX.effB rfl rfl ⟨_, rfl, (congrArg Value.bool c195)⟩ ?_
              refine o_call (torsionref06_Nonzero_fn ⟨_, rfl, ⟨_, _, _, rfl, Sls.mono f60⟩⟩ e206) (fun v202 h203 s204 r205 => ?_)
              obtain rfl := (show _ = _ from r205)
              refine JL.nil ⟨rfl, inferInstance, inferInstance, ?_⟩
              refine JD.calc 13 (by kernel_rfl) rfl ⟨_, rfl, (congrArg Value.bool c195)⟩ ss_subB (q_eql rfl rfl) ?_
              first | refine JD.calc 14 (by kernel_rfl) rfl trivial ss_subB (q_pickTv (v := .bool _) rfl c195 rfl) ?_ | refine JD.calc 14 (by kernel_rfl) rfl trivial ss_subB (q_pickT rfl c195) ?_
              first | refine JD.calc 15 (by kernel_rfl) rfl trivial ss_subB (q_mvv (v := .bool _) rfl) ?_ | refine JD.calc 15 (by kernel_rfl) rfl trivial ss_subB (q_mv) ?_
              refine JD.loadB 16 (by kernel_rfl) rfl ⟨_, rfl, (congrArg Value.bool (decide_eq_true c208))⟩ (q_lda (vs := [_, _, _]) rfl inferInstance ⟨rfl, rfl, rfl, trivial⟩) ?_
              refine JD.loadB 19 (by kernel_rfl) rfl ⟨_, rfl, (congrArg Value.bool (decide_eq_true c208))⟩ (q_lda (vs := [_, _, _]) rfl inferInstance ⟨rfl, rfl, rfl, trivial⟩) ?_
              refine JD.one 17 (by kernel_rfl) ?_
              refine JX.effB rfl rfl ⟨_, rfl, (congrArg Value.bool (decide_eq_true c208))⟩ ?_
              refine o_call (torsionref06_To_fn ⟨_, rfl, ⟨_, _, _, rfl, Sls.mono f60⟩⟩ e213) (fun v209 h210 s211 r212 => ?_)
              obtain ⟨_, rfl, p215, n216, c217, rfl, f218⟩ := r212
              refine JL.nil ⟨rfl, inferInstance, inferInstance, ?_⟩
              refine JD.one 18 (by kernel_rfl) ?_
              refine JX.effB rfl rfl ⟨_, rfl, (congrArg Value.bool (decide_eq_true c208))⟩ ?_
              refine o_call (sparse_From_fn ⟨_, rfl, ⟨_, _, _, rfl, Sls.mono f218⟩⟩ e223) (fun v219 h220 s221 r222 => ?_)
              obtain ⟨_, rfl, p225, n226, c227, rfl, f228⟩ := r222
              refine JL.nil ⟨rfl, inferInstance, inferInstance, ?_⟩
              refine JD.one 20 (by kernel_rfl) ?_
              refine JX.effB rfl rfl ⟨_, rfl, (congrArg Value.bool (decide_eq_true c208))⟩ ?_
              refine o_call (torsionref06_Equal_fn ⟨_, rfl, ⟨_, _, _, rfl, Sls.mono f228⟩⟩ ⟨_, rfl, ⟨_, _, _, rfl, Sls.mono f60⟩⟩ e233) (fun v229 h230 s231 r232 => ?_)
              obtain rfl := (show _ = _ from r232)
              refine JL.nil ⟨rfl, inferInstance, inferInstance, ?_⟩
              first | refine JD.calc 21 (by kernel_rfl) rfl trivial ss_subB (q_pickTv (v := .bool _) rfl (decide_eq_true c208) rfl) ?_ | refine JD.calc 21 (by kernel_rfl) rfl trivial ss_subB (q_pickT rfl (decide_eq_true c208)) ?_
              first | refine JD.calc 22 (by kernel_rfl) rfl trivial ss_subB (q_mvv (v := .bool _) rfl) ?_ | refine JD.calc 22 (by kernel_rfl) rfl trivial ss_subB (q_mv) ?_
              refine JD.pass 23 (by kernel_rfl) rfl rfl (congrArg Value.bool (eq_false_of_ne_true c235)) ss_subB ?_
              refine JD.pass 24 (by kernel_rfl) rfl rfl (congrArg Value.bool (eq_false_of_ne_true c235)) ss_subB ?_
              refine JD.pass 25 (by kernel_rfl) rfl rfl (congrArg Value.bool (eq_false_of_ne_true c235)) ss_subB ?_
              refine JD.pass 26 (by kernel_rfl) rfl rfl (congrArg Value.bool (eq_false_of_ne_true c235)) ss_subB ?_
              refine JD.pass 27 (by kernel_rfl) rfl rfl (congrArg Value.bool (eq_false_of_ne_true c235)) ss_subB ?_
              refine JD.pass 28 (by kernel_rfl) rfl rfl (congrArg Value.bool (eq_false_of_ne_true c235)) ss_subB ?_
              refine JD.pass 29 (by kernel_rfl) rfl rfl (congrArg Value.bool (eq_false_of_ne_true c235)) ss_subB ?_
              first | refine JD.calc 30 (by kernel_rfl) rfl trivial ss_subB (q_pickFv (v := .bool _) rfl (eq_false_of_ne_true c235) rfl) ?_ | refine JD.calc 30 (by kernel_rfl) rfl trivial ss_subB (q_pickF rfl (eq_false_of_ne_true c235)) ?_
              first | refine JD.calc 31 (by kernel_rfl) rfl trivial ss_subB (q_mvv (v := .bool _) rfl) ?_ | refine JD.calc 31 (by kernel_rfl) rfl trivial ss_subB (q_mv) ?_
              refine JD.pass 32 (by kernel_rfl) rfl rfl rfl ss_subB ?_
              refine JD.pass 33 (by kernel_rfl) rfl rfl rfl ss_subB ?_
              refine JD.pass 34 (by kernel_rfl) rfl rfl rfl ss_subB ?_
              first | refine JD.calc 35 (by kernel_rfl) rfl trivial ss_subB (q_pickFv (v := .bool _) rfl rfl rfl) ?_ | refine JD.calc 35 (by kernel_rfl) rfl trivial ss_subB (q_pickF rfl rfl) ?_
              first | refine JD.calc 36 (by kernel_rfl) rfl trivial ss_subB (q_mvv (v := .bool _) rfl) ?_ | refine JD.calc 36 (by kernel_rfl) rfl trivial ss_subB (q_mv) ?_
              refine JD.pass 37 (by kernel_rfl) rfl rfl rfl ss_subB ?_
              refine JD.pass 38 (by kernel_rfl) rfl rfl rfl ss_subB ?_
              first | refine JD.calc 39 (by kernel_rfl) rfl trivial ss_subB (q_pickFv (v := .bool _) rfl rfl rfl) ?_ | refine JD.calc 39 (by kernel_rfl) rfl trivial ss_subB (q_pickF rfl rfl) ?_
              first | refine JD.calc 40 (by kernel_rfl) rfl trivial ss_subB (q_asv (v := .bool _) rfl) ?_ | refine JD.calc 40 (by kernel_rfl) rfl trivial ss_subB (q_as) ?_
              refine JD.done (by kernel_rfl) ?_ _
              --
              refine J.ret ?_
              obtain rfl := Option.some.inj hm
              exact ret_ok (fn := Try.f8) rfl (.tmp rfl .nil) rfl
          ·
            replace hm := ite_F c208 hm
            refine J.drawB [b61] [] ?_
            first | refine JD.calc 0 (by kernel_rfl) rfl trivial ss_subB (q_mvv (v := .bool _) rfl) ?_ | refine JD.calc 0 (by kernel_rfl) rfl trivial ss_subB (q_mv) ?_
            first | refine JD.calc 1 (by kernel_rfl) rfl trivial ss_subB (q_mvv (v := .bool _) rfl) ?_ | refine JD.calc 1 (by kernel_rfl) rfl trivial ss_subB (q_mv) ?_
            refine JD.loadB 2 (by kernel_rfl) rfl ⟨_, rfl, (congrArg Value.bool c168)⟩ (q_lda (vs := [_, _, _]) rfl inferInstance ⟨rfl, rfl, rfl, trivial⟩) ?_
            refine JD.loadB 4 (by kernel_rfl) rfl ⟨_, rfl, (congrArg Value.bool c168)⟩ (q_lda (vs := [_, _, _]) rfl inferInstance ⟨rfl, rfl, rfl, trivial⟩) ?_
            refine JD.one 3 (by kernel_rfl) ?_
            refine JX.effB rfl rfl ⟨_, rfl, (congrArg Value.bool c168)⟩ ?_
            refine o_call (sparse_Transpose_fn ⟨_, rfl, ⟨_, _, _, rfl, Sls.mono f60⟩⟩ e173) (fun v169 h170 s171 r172 => ?_)
            obtain ⟨_, rfl, p175, n176, c177, rfl, f178⟩ := r172
            refine JL.nil ⟨rfl, inferInstance, inferInstance, ?_⟩
            refine JD.one 5 (by kernel_rfl) ?_
            refine JX.effB rfl rfl ⟨_, rfl, (congrArg Value.bool c168)⟩ ?_
            refine o_call (torsionref06_Transpose_fn ⟨_, rfl, ⟨_, _, _, rfl, Sls.mono f60⟩⟩ e183) (fun v179 h180 s181 r182 => ?_)
            obtain ⟨_, rfl, p185, n186, c187, rfl, f188⟩ := r182
            refine JL.nil ⟨rfl, inferInstance, inferInstance, ?_⟩
            refine JD.one 6 (by kernel_rfl) ?_
            refine JX.effB rfl rfl ⟨_, rfl, (congrArg Value.bool c168)⟩ ?_
            refine o_call (torsionref06_Equal_fn ⟨_, rfl, ⟨_, _, _, rfl, Sls.mono f178⟩⟩ ⟨_, rfl, ⟨_, _, _, rfl, Sls.mono f188⟩⟩ e193) (fun v189 h190 s191 r192 => ?_)
            obtain rfl := (show _ = _ from r192)
            refine JL.nil ⟨rfl, inferInstance, inferInstance, ?_⟩
            first | refine JD.calc 7 (by kernel_rfl) rfl trivial ss_subB (q_pickTv (v := .bool _) rfl c168 rfl) ?_ | refine JD.calc 7 (by kernel_rfl) rfl trivial ss_subB (q_pickT rfl c168) ?_
            first | refine JD.calc 8 (by kernel_rfl) rfl trivial ss_subB (q_mvv (v := .bool _) rfl) ?_ | refine JD.calc 8 (by kernel_rfl) rfl trivial ss_subB (q_mv) ?_
            refine JD.loadB 9 (by kernel_rfl) rfl ⟨_, rfl, (congrArg Value.bool c195)⟩ (q_lda (vs := [_, _, _]) rfl inferInstance ⟨rfl, rfl, rfl, trivial⟩) ?_
            refine JD.loadB 11 (by kernel_rfl) rfl ⟨_, rfl, (congrArg Value.bool c195)⟩ (q_lda (vs := [_, _, _]) rfl inferInstance ⟨rfl, rfl, rfl, trivial⟩) ?_
            refine JD.one 10 (by kernel_rfl) ?_
            refine JX.effB rfl rfl ⟨_, rfl, (congrArg Value.bool c195)⟩ ?_
            refine o_call (sparse_Nonzero_fn ⟨_, rfl, ⟨_, _, _, rfl, Sls.mono f60⟩⟩ e200) (fun v196 h197 s198 r199 => ?_)
            obtain rfl := (show _ = _ from r199)
            refine JL.nil ⟨rfl, inferInstance, inferInstance, ?_⟩
            refine JD.one 12 (by kernel_rfl) ?_
            refine JX.effB rfl rfl ⟨_, rfl, (congrArg Value.bool c195)⟩ ?_
            refine o_call (torsionref06_Nonzero_fn ⟨_, rfl, ⟨_, _, _, rfl, Sls.mono f60⟩⟩ e206) (fun v202 h203 s204 r205 => ?_)
            obtain rfl := (show _ = _ from r205)
            refine JL.nil ⟨rfl, inferInstance, inferInstance, ?_⟩
            refine JD.calc 13 (by kernel_rfl) rfl ⟨_, rfl, (congrArg Value.bool c195)⟩ ss_subB (q_eql rfl rfl) ?_
            first | refine JD.calc 14 (by kernel_rfl) rfl trivial ss_subB (q_pickTv (v := .bool _) rfl c195 rfl) ?_ | refine JD.calc 14 (by kernel_rfl) rfl trivial ss_subB (q_pickT rfl c195) ?_
            first | refine JD.calc 15 (by kernel_rfl) rfl trivial ss_subB (q_mvv (v := .bool _) rfl) ?_ | refine JD.calc 15 (by kernel_rfl) rfl trivial ss_subB (q_mv) ?_
            refine JD.pass 16 (by kernel_rfl) rfl rfl (congrArg Value.bool (decide_eq_false c208)) ss_subB ?_
            refine JD.pass 17 (by kernel_rfl) rfl rfl (congrArg Value.bool (decide_eq_false c208)) ss_subB ?_
            refine JD.pass 18 (by kernel_rfl) rfl rfl (congrArg Value.bool (decide_eq_false c208)) ss_subB ?_
            refine JD.pass 19 (by kernel_rfl) rfl rfl (congrArg Value.bool (decide_eq_false c208)) ss_subB ?_
            refine JD.pass 20 (by kernel_rfl) rfl rfl (congrArg Value.bool (decide_eq_false c208)) ss_subB ?_
            first | refine JD.calc 21 (by kernel_rfl) rfl trivial ss_subB (q_pickFv (v := .bool _) rfl (decide_eq_false c208) rfl) ?_ | refine JD.calc 21 (by kernel_rfl) rfl trivial ss_subB (q_pickF rfl (decide_eq_false c208)) ?_
            first | refine JD.calc 22 (by kernel_rfl) rfl trivial ss_subB (q_mvv (v := .bool _) rfl) ?_ | refine JD.calc 22 (by kernel_rfl) rfl trivial ss_subB (q_mv) ?_
            refine JD.pass 23 (by kernel_rfl) rfl rfl rfl ss_subB ?_
            refine JD.pass 24 (by kernel_rfl) rfl rfl rfl ss_subB ?_
            refine JD.pass 25 (by kernel_rfl) rfl rfl rfl ss_subB ?_
            refine JD.pass 26 (by kernel_rfl) rfl rfl rfl ss_subB ?_
            refine JD.pass 27 (by kernel_rfl) rfl rfl rfl ss_subB ?_
            refine JD.pass 28 (by kernel_rfl) rfl rfl rfl ss_subB ?_
            refine JD.pass 29 (by kernel_rfl) rfl rfl rfl ss_subB ?_
            first | refine JD.calc 30 (by kernel_rfl) rfl trivial ss_subB (q_pickFv (v := .bool _) rfl rfl rfl) ?_ | refine JD.calc 30 (by kernel_rfl) rfl trivial ss_subB (q_pickF rfl rfl) ?_
            first | refine JD.calc 31 (by kernel_rfl) rfl trivial ss_subB (q_mvv (v := .bool _) rfl) ?_ | refine JD.calc 31 (by kernel_rfl) rfl trivial ss_subB (q_mv) ?_
            refine JD.pass 32 (by kernel_rfl) rfl rfl rfl ss_subB ?_
            refine JD.pass 33 (by kernel_rfl) rfl rfl rfl ss_subB ?_
            refine JD.pass 34 (by kernel_rfl) rfl rfl rfl ss_subB ?_
            first | refine JD.calc 35 (by kernel_rfl) rfl trivial ss_subB (q_pickFv (v := .bool _) rfl rfl rfl) ?_ | refine JD.calc 35 (by kernel_rfl) rfl trivial ss_subB (q_pickF rfl rfl) ?_
            first | refine JD.calc 36 (by kernel_rfl) rfl trivial ss_subB (q_mvv (v := .bool _) rfl) ?_ | refine JD.calc 36 (by kernel_rfl) rfl trivial ss_subB (q_mv) ?_
            refine JD.pass 37 (by kernel_rfl) rfl rfl rfl ss_subB ?_
            refine JD.pass 38 (by kernel_rfl) rfl rfl rfl ss_subB ?_
            first | refine JD.calc 39 (by kernel_rfl) rfl trivial ss_subB (q_pickFv (v := .bool _) rfl rfl rfl) ?_ | refine JD.calc 39 (by kernel_rfl) rfl trivial ss_subB (q_pickF rfl rfl) ?_
            first | refine JD.calc 40 (by kernel_rfl) rfl trivial ss_subB (q_asv (v := .bool _) rfl) ?_ | refine JD.calc 40 (by kernel_rfl) rfl trivial ss_subB (q_as) ?_
            refine JD.done (by kernel_rfl) ?_ _
            --
            refine J.ret ?_
            obtain rfl := Option.some.inj hm
            exact ret_ok (fn := Try.f8) rfl (.tmp rfl .nil) rfl
        ·
          replace hm := ite_F c195 hm
          refine J.drawB [b61] [] ?_
          first | refine JD.calc 0 (by kernel_rfl) rfl trivial ss_subB (q_mvv (v := .bool _) rfl) ?_ | refine JD.calc 0 (by kernel_rfl) rfl trivial ss_subB (q_mv) ?_
          first | refine JD.calc 1 (by kernel_rfl) rfl trivial ss_subB (q_mvv (v := .bool _) rfl) ?_ | refine JD.calc 1 (by kernel_rfl) rfl trivial ss_subB (q_mv) ?_
          refine JD.loadB 2 (by kernel_rfl) rfl ⟨_, rfl, (congrArg Value.bool c168)⟩ (q_lda (vs := [_, _, _]) rfl inferInstance ⟨rfl, rfl, rfl, trivial⟩) ?_
          refine JD.loadB 4 (by kernel_rfl) rfl ⟨_, rfl, (congrArg Value.bool c168)⟩ (q_lda (vs := [_, _, _]) rfl inferInstance ⟨rfl, rfl, rfl, trivial⟩) ?_
          refine JD.one 3 (by kernel_rfl) ?_
          refine JX.effB rfl rfl ⟨_, rfl, (congrArg Value.bool c168)⟩ ?_
          refine o_call (sparse_Transpose_fn ⟨_, rfl, ⟨_, _, _, rfl, Sls.mono f60⟩⟩ e173) (fun v169 h170 s171 r172 => ?_)
          obtain ⟨_, rfl, p175, n176, c177, rfl, f178⟩ := r172
          refine JL.nil ⟨rfl, inferInstance, inferInstance, ?_⟩
          refine JD.one 5 (by kernel_rfl) ?_
          refine JX.effB rfl rfl ⟨_, rfl, (congrArg Value.bool c168)⟩ ?_
          refine o_call (torsionref06_Transpose_fn ⟨_, rfl, ⟨_, _, _, rfl, Sls.mono f60⟩⟩ e183) (fun v179 h180 s181 r182 => ?_)
          obtain ⟨_, rfl, p185, n186, c187, rfl, f188⟩ := r182
          refine JL.nil ⟨rfl, inferInstance, inferInstance, ?_⟩
          refine JD.one 6 (by kernel_rfl) ?_
          refine JX.effB rfl rfl ⟨_, rfl, (congrArg Value.bool c168)⟩ ?_
          refine o_call (torsionref06_Equal_fn ⟨_, rfl, ⟨_, _, _, rfl, Sls.mono f178⟩⟩ ⟨_, rfl, ⟨_, _, _, rfl, Sls.mono f188⟩⟩ e193) (fun v189 h190 s191 r192 => ?_)
          obtain rfl := (show _ = _ from r192)
          refine JL.nil ⟨rfl, inferInstance, inferInstance, ?_⟩
          first | refine JD.calc 7 (by kernel_rfl) rfl trivial ss_subB (q_pickTv (v := .bool _) rfl c168 rfl) ?_ | refine JD.calc 7 (by kernel_rfl) rfl trivial ss_subB (q_pickT rfl c168) ?_
          first | refine JD.calc 8 (by kernel_rfl) rfl trivial ss_subB (q_mvv (v := .bool _) rfl) ?_ | refine JD.calc 8 (by kernel_rfl) rfl trivial ss_subB (q_mv) ?_
          refine JD.pass 9 (by kernel_rfl) rfl rfl (congrArg Value.bool (eq_false_of_ne_true c195)) ss_subB ?_
          refine JD.pass 10 (by kernel_rfl) rfl rfl (congrArg Value.bool (eq_false_of_ne_true c195)) ss_subB ?_
          refine JD.pass 11 (by kernel_rfl) rfl rfl (congrArg Value.bool (eq_false_of_ne_true c195)) ss_subB ?_
          refine JD.pass 12 (by kernel_rfl) rfl rfl (congrArg Value.bool (eq_false_of_ne_true c195)) ss_subB ?_
          refine JD.pass 13 (by kernel_rfl) rfl rfl (congrArg Value.bool (eq_false_of_ne_true c195)) ss_subB ?_
          first | refine JD.calc 14 (by kernel_rfl) rfl trivial ss_subB (q_pickFv (v := .bool _) rfl (eq_false_of_ne_true c195) rfl) ?_ | refine JD.calc 14 (by kernel_rfl) rfl trivial ss_subB (q_pickF rfl (eq_false_of_ne_true c195)) ?_
          first | refine JD.calc 15 (by kernel_rfl) rfl trivial ss_subB (q_mvv (v := .bool _) rfl) ?_ | refine JD.calc 15 (by kernel_rfl) rfl trivial ss_subB (q_mv) ?_
          refine JD.pass 16 (by kernel_rfl) rfl rfl rfl ss_subB ?_
          refine JD.pass 17 (by kernel_rfl) rfl rfl rfl ss_subB ?_
          refine JD.pass 18 (by kernel_rfl) rfl rfl rfl ss_subB ?_
          refine JD.pass 19 (by kernel_rfl) rfl rfl rfl ss_subB ?_
          refine JD.pass 20 (by kernel_rfl) rfl rfl rfl ss_subB ?_
          first | refine JD.calc 21 (by kernel_rfl) rfl trivial ss_subB (q_pickFv (v := .bool _) rfl rfl rfl) ?_ | refine JD.calc 21 (by kernel_rfl) rfl trivial ss_subB (q_pickF rfl rfl) ?_
          first | refine JD.calc 22 (by kernel_rfl) rfl trivial ss_subB (q_mvv (v := .bool _) rfl) ?_ | refine JD.calc 22 (by kernel_rfl) rfl trivial ss_subB (q_mv) ?_
          refine JD.pass 23 (by kernel_rfl) rfl rfl rfl ss_subB ?_
          refine JD.pass 24 (by kernel_rfl) rfl rfl rfl ss_subB ?_
          refine JD.pass 25 (by kernel_rfl) rfl rfl rfl ss_subB ?_
          refine JD.pass 26 (by kernel_rfl) rfl rfl rfl ss_subB ?_
          refine JD.pass 27 (by kernel_rfl) rfl rfl rfl ss_subB ?_
          refine JD.pass 28 (by kernel_rfl) rfl rfl rfl ss_subB ?_
          refine JD.pass 29 (by kernel_rfl) rfl rfl rfl ss_subB ?_
          first | refine JD.calc 30 (by kernel_rfl) rfl trivial ss_subB (q_pickFv (v := .bool _) rfl rfl rfl) ?_ | refine JD.calc 30 (by kernel_rfl) rfl trivial ss_subB (q_pickF rfl rfl) ?_
          first | refine JD.calc 31 (by kernel_rfl) rfl trivial ss_subB (q_mvv (v := .bool _) rfl) ?_ | refine JD.calc 31 (by kernel_rfl) rfl trivial ss_subB (q_mv) ?_
          refine JD.pass 32 (by kernel_rfl) rfl rfl rfl ss_subB ?_
          refine JD.pass 33 (by kernel_rfl) rfl rfl rfl ss_subB ?_
          refine JD.pass 34 (by kernel_rfl) rfl rfl rfl ss_subB ?_
          first | refine JD.calc 35 (by kernel_rfl) rfl trivial ss_subB (q_pickFv (v := .bool _) rfl rfl rfl) ?_ | refine JD.calc 35 (by kernel_rfl) rfl trivial ss_subB (q_pickF rfl rfl) ?_
          first | refine JD.calc 36 (by kernel_rfl) rfl trivial ss_subB (q_mvv (v := .bool _) rfl) ?_ | refine JD.calc 36 (by kernel_rfl) rfl trivial ss_subB (q_mv) ?_
          refine JD.pass 37 (by kernel_rfl) rfl rfl rfl ss_subB ?_
          refine JD.pass 38 (by kernel_rfl) rfl rfl rfl ss_subB ?_
          first | refine JD.calc 39 (by kernel_rfl) rfl trivial ss_subB (q_pickFv (v := .bool _) rfl rfl rfl) ?_ | refine JD.calc 39 (by kernel_rfl) rfl trivial ss_subB (q_pickF rfl rfl) ?_
          first | refine JD.calc 40 (by kernel_rfl) rfl trivial ss_subB (q_asv (v := .bool _) rfl) ?_ | refine JD.calc 40 (by kernel_rfl) rfl trivial ss_subB (q_as) ?_
          refine JD.done (by kernel_rfl) ?_ _
          --
          refine J.ret ?_
          obtain rfl := Option.some.inj hm
          exact ret_ok (fn := Try.f8) rfl (.tmp rfl .nil) rfl
      ·
        replace hm := ite_F c168 hm
        refine J.drawB [] [] ?_
        first | refine JD.calc 0 (by kernel_rfl) rfl trivial ss_subB (q_mvv (v := .bool _) rfl) ?_ | refine JD.calc 0 (by kernel_rfl) rfl trivial ss_subB (q_mv) ?_
        first | refine JD.calc 1 (by kernel_rfl) rfl trivial ss_subB (q_mvv (v := .bool _) rfl) ?_ | refine JD.calc 1 (by kernel_rfl) rfl trivial ss_subB (q_mv) ?_
        refine JD.pass 2 (by kernel_rfl) rfl rfl (congrArg Value.bool (eq_false_of_ne_true c168)) ss_subB ?_
        refine JD.pass 3 (by kernel_rfl) rfl rfl (congrArg Value.bool (eq_false_of_ne_true c168)) ss_subB ?_
        refine JD.pass 4 (by kernel_rfl) rfl rfl (congrArg Value.bool (eq_false_of_ne_true c168)) ss_subB ?_
        refine JD.pass 5 (by kernel_rfl) rfl rfl (congrArg Value.bool (eq_false_of_ne_true c168)) ss_subB ?_
        refine JD.pass 6 (by kernel_rfl) rfl rfl (congrArg Value.bool (eq_false_of_ne_true c168)) ss_subB ?_
        first | refine JD.calc 7 (by kernel_rfl) rfl trivial ss_subB (q_pickFv (v := .bool _) rfl (eq_false_of_ne_true c168) rfl) ?_ | refine JD.calc 7 (by kernel_rfl) rfl trivial ss_subB (q_pickF rfl (eq_false_of_ne_true c168)) ?_
        first | refine JD.calc 8 (by kernel_rfl) rfl trivial ss_subB (q_mvv (v := .bool _) rfl) ?_ | refine JD.calc 8 (by kernel_rfl) rfl trivial ss_subB (q_mv) ?_
        refine JD.pass 9 (by kernel_rfl) rfl rfl rfl ss_subB ?_
        refine JD.pass 10 (by kernel_rfl) rfl rfl rfl ss_subB ?_
        refine JD.pass 11 (by kernel_rfl) rfl rfl rfl ss_subB ?_
        refine JD.pass 12 (by kernel_rfl) rfl rfl rfl ss_subB ?_
        refine JD.pass 13 (by kernel_rfl) rfl rfl rfl ss_subB ?_
        first | refine JD.calc 14 (by kernel_rfl) rfl trivial ss_subB (q_pickFv (v := .bool _) rfl rfl rfl) ?_ | refine JD.calc 14 (by kernel_rfl) rfl trivial ss_subB (q_pickF rfl rfl) ?_
        first | refine JD.calc 15 (by kernel_rfl) rfl trivial ss_subB (q_mvv (v := .bool _) rfl) ?_ | refine JD.calc 15 (by kernel_rfl) rfl trivial ss_subB (q_mv) ?_
        refine JD.pass 16 (by kernel_rfl) rfl rfl rfl ss_subB ?_
        refine JD.pass 17 (by kernel_rfl) rfl rfl rfl ss_subB ?_
        refine JD.pass 18 (by kernel_rfl) rfl rfl rfl ss_subB ?_
        refine JD.pass 19 (by kernel_rfl) rfl rfl rfl ss_subB ?_
        refine JD.pass 20 (by kernel_rfl) rfl rfl rfl ss_subB ?_
        first | refine JD.calc 21 (by kernel_rfl) rfl trivial ss_subB (q_pickFv (v := .bool _) rfl rfl rfl) ?_ | refine JD.calc 21 (by kernel_rfl) rfl trivial ss_subB (q_pickF rfl rfl) ?_
        first | refine JD.calc 22 (by kernel_rfl) rfl trivial ss_subB (q_mvv (v := .bool _) rfl) ?_ | refine JD.calc 22 (by kernel_rfl) rfl trivial ss_subB (q_mv) ?_
        refine JD.pass 23 (by kernel_rfl) rfl rfl rfl ss_subB ?_
        refine JD.pass 24 (by kernel_rfl) rfl rfl rfl ss_subB ?_
        refine JD.pass 25 (by kernel_rfl) rfl rfl rfl ss_subB ?_
        refine JD.pass 26 (by kernel_rfl) rfl rfl rfl ss_subB ?_
        refine JD.pass 27 (by kernel_rfl) rfl rfl rfl ss_subB ?_
        refine JD.pass 28 (by kernel_rfl) rfl rfl rfl ss_subB ?_
        refine JD.pass 29 (by kernel_rfl) rfl rfl rfl ss_subB ?_
        first | refine JD.calc 30 (by kernel_rfl) rfl trivial ss_subB (q_pickFv (v := .bool _) rfl rfl rfl) ?_ | refine JD.calc 30 (by kernel_rfl) rfl trivial ss_subB (q_pickF rfl rfl) ?_
        first | refine JD.calc 31 (by kernel_rfl) rfl trivial ss_subB (q_mvv (v := .bool _) rfl) ?_ | refine JD.calc 31 (by kernel_rfl) rfl trivial ss_subB (q_mv) ?_
        refine JD.pass 32 (by kernel_rfl) rfl rfl rfl ss_subB ?_
        refine JD.pass 33 (by kernel_rfl) rfl rfl rfl ss_subB ?_
        refine JD.pass 34 (by kernel_rfl) rfl rfl rfl ss_subB ?_
        first | refine JD.calc 35 (by kernel_rfl) rfl trivial ss_subB (q_pickFv (v := .bool _) rfl rfl rfl) ?_ | refine JD.calc 35 (by kernel_rfl) rfl trivial ss_subB (q_pickF rfl rfl) ?_
        first | refine JD.calc 36 (by kernel_rfl) rfl trivial ss_subB (q_mvv (v := .bool _) rfl) ?_ | refine JD.calc 36 (by kernel_rfl) rfl trivial ss_subB (q_mv) ?_
        refine JD.pass 37 (by kernel_rfl) rfl rfl rfl ss_subB ?_
        refine JD.pass 38 (by kernel_rfl) rfl rfl rfl ss_subB ?_
        first | refine JD.calc 39 (by kernel_rfl) rfl trivial ss_subB (q_pickFv (v := .bool _) rfl rfl rfl) ?_ | refine JD.calc 39 (by kernel_rfl) rfl trivial ss_subB (q_pickF rfl rfl) ?_
        first | refine JD.calc 40 (by kernel_rfl) rfl trivial ss_subB (q_asv (v := .bool _) rfl) ?_ | refine JD.calc 40 (by kernel_rfl) rfl trivial ss_subB (q_as) ?_
        refine JD.done (by kernel_rfl) ?_ _
        --
        refine J.ret ?_
        obtain rfl := Option.some.inj hm
        exact ret_ok (fn := Try.f8) rfl (.tmp rfl .nil) rfl
end Go.Z
end
section
set_option linter.unusedSimpArgs false
set_option linter.unusedVariables false
/- How the arguments of a call are opened: what the model's reading of a value says, as rows and matrices in frozen memory. No program is named here. -/
set_option linter.unusedSimpArgs false
set_option linter.unusedVariables false
namespace Go.Z
open Go Go.RowKit

/-- All memory at the call. -/
def HW (W : World) : Heap := fun b => W.heap[b]?
section
variable {W : World} {base : Nat} {α : Type} {R : Heap → List Value → α → Prop} {sz : Nat}
theorem cell_row {b o : Nat} {v : Value} (h : W.cell? ⟨b, o, none⟩ = some v) : ∃ l T fr, W.heap[b]? = some (.cells ⟨l⟩ T fr) ∧ l[o]? = some v := by
  unfold World.cell? at h
  split at h
  · rename_i c T fr hc
    refine ⟨c.toList, T, fr, hc, ?_⟩
    simpa using h
  · cases h
theorem cells_row {b o : Nat} {cs : List Value} (hn : 0 < cs.length) (h : ∀ k, k < cs.length → W.cell? ⟨b, o + k, none⟩ = cs[k]?) : CellN (HW W) b o cs := by
  obtain ⟨v, hv⟩ := lt_get hn
  have h0 := h 0 hn
  rw [hv] at h0
  obtain ⟨l, T, fr, hb, _⟩ := cell_row h0
  refine ⟨l, T, fr, hb, LookN.of_get fun j u hu => ?_⟩
  have hj : j < cs.length := (List.getElem?_eq_some_iff.1 hu).1
  have h1 := h j hj
  rw [hu] at h1
  obtain ⟨l', T', fr', hb', hl'⟩ := cell_row h1
  rw [hb] at hb'
  cases hb'
  exact hl'
/-- A slice of elements, opened one by one. -/
theorem sls_open {a : Addr} {len cap : Nat} (hz : 0 < sz) (hlc : len ≤ cap) (Pr : α → Prop) (el : ∀ i, i < len → ∃ cs' x, W.cells? base (a.add (i * sz)) sz = some cs' ∧ R (HW W) cs' x ∧ Pr x) :
    ∃ l, l.length = len ∧ Sls R sz (HW W) (.slice (some a) len cap) l ∧ ∀ x ∈ l, Pr x := by
  rcases Nat.eq_zero_or_pos len with rfl | hpos
  · exact ⟨[], rfl, ⟨[], ⟨_, cap, rfl, hlc, by simp, .inl ⟨rfl, fun _ _ => trivial⟩⟩, Cells.nil⟩, fun x hx => by cases hx⟩
  · have hspot : a.spot = none := by
      obtain ⟨cs', x, h1, _, _⟩ := el 0 hpos
      obtain ⟨_, hl, hc⟩ := World.cells?_some h1
      obtain ⟨v, hv⟩ := lt_get (l := cs') (i := 0) (by omega)
      have := hc 0 hz
      rw [hv] at this
      have := World.cell?_spot this
      simpa [Addr.add] using this
    obtain ⟨b, o, sp⟩ := a
    simp only at hspot
    subst hspot
    have key : ∀ n, n ≤ len → ∃ (cs : List Value) (l : List α), l.length = n ∧ Cells R sz (HW W) cs l ∧ (∀ k, k < cs.length → W.cell? ⟨b, o + k, none⟩ = cs[k]?) ∧ ∀ x ∈ l, Pr x := by
      intro n
      induction n with
      | zero => exact fun _ => ⟨[], [], rfl, Cells.nil, fun k hk => by simp at hk, fun x hx => by cases hx⟩
      | succ n ih =>
        intro hn
        obtain ⟨cs, l, hl, hc, hk, hp⟩ := ih (by omega)
        obtain ⟨cs', x, h1, hR, hpx⟩ := el n (by omega)
        obtain ⟨_, hl', hc'⟩ := World.cells?_some h1
        have hcl : cs.length = n * sz := by rw [hc.1, hl]
        refine ⟨cs ++ cs', l ++ [x], by simp [hl], hc.snoc hl' hR, fun k hk2 => ?_, fun y hy => ?_⟩
        · rcases Nat.lt_or_ge k cs.length with h3 | h3
          · rw [List.getElem?_append_left h3]; exact hk k h3
          · rw [List.getElem?_append_right h3]
            have h4 := hc' (k - cs.length) (by rw [List.length_append] at hk2; omega)
            rw [add_none, add_none] at h4
            rw [← h4]
            congr 2
            omega
        · rcases List.mem_append.1 hy with h3 | h3
          · exact hp y h3
          · simp at h3; subst h3; exact hpx
    obtain ⟨cs, l, hl, hc, hk, hp⟩ := key len (Nat.le_refl _)
    have hcl : cs.length = len * sz := by rw [hc.1, hl]
    refine ⟨l, hl, ⟨cs, ⟨_, cap, by rw [hl], by omega, by rw [hl, hcl], .inr ⟨b, o, rfl, cells_row ?_ hk⟩⟩, hc⟩, hp⟩
    rw [hcl]; exact Nat.mul_pos hpos hz
end
def LimbR (h : Heap) (cs : List Value) (x : Nat) : Prop := cs = [.int .u32 (x : Int)] ∧ x < Bs
theorem mag_of {h : Heap} {v : Value} {l : List Nat} (s : Sls LimbR 1 h v l) : MagAt h v l := by
  obtain ⟨cs, h1, h2⟩ := s
  have e : cs = u32s l := by
    refine List.ext_getElem? fun i => ?_
    rcases Nat.lt_or_ge i l.length with hi | hi
    · obtain ⟨x, hx⟩ := lt_get hi
      have := (h2.2 i x hx).1
      have h3 := congrArg (fun t : List Value => t[0]?) this
      simp only [List.getElem?_take, List.getElem?_drop] at h3
      rw [u32s_get hx]
      simpa using h3
    · rw [List.getElem?_eq_none (by rw [h2.1]; omega), List.getElem?_eq_none (by rw [u32s_len]; omega)]
  subst e
  exact ⟨h1, fun x hx => by
    obtain ⟨i, hi⟩ := List.mem_iff_getElem?.1 hx
    exact (h2.2 i x hi).2⟩

section
variable {H : Type} {enc : TypeId × Value → H} {P : Program} {W : World} {base : Nat} {spare : Nat → Bool} {held : Bool}
theorem wf_u32 {n : Int} (h : (Lit.int .u32 n).wf = true) : 0 ≤ n ∧ n ≤ 4294967295 := by
  simp only [Lit.wf, Bool.and_eq_true, decide_eq_true_eq] at h
  exact ⟨by simpa [IntKind.min, IntKind.signed] using h.1, by have := h.2; simp [IntKind.max, IntKind.signed, IntKind.bits] at this; omega⟩
theorem open_mag {t e : TypeId} {fuel : Nat} {cs : List Value} {x : DataW H × List MemPlace} (ht : P.underlying t = some (.slice e)) (he : P.underlying e = some (.int .u32)) (hc : P.cellsOf e = 1)
    (h : DataW.trod enc P W base spare held fuel t cs = some x) : ∃ p c l, cs = [.slice p l.length c] ∧ l.length ≤ c ∧ l.length ≤ maxLen ∧ MagAt (HW W) (.slice p l.length c) l := by
  rcases Go.Deep.open_slice ht h with ⟨rfl, _⟩ | ⟨a, len, cap, m, n, D, Pl, rfl, _, hl, hm, hmm, _, hx⟩
  · exact ⟨none, 0, [], rfl, Nat.le_refl _, Nat.zero_le _, MagAt.nil _⟩
  · rw [hc] at hx
    obtain ⟨l, hll, hs, _⟩ := sls_open (R := LimbR) (W := W) (base := base) (a := a) (sz := 1) (by decide) hl (fun _ => True) (fun i hi => by
      obtain ⟨cs', h1, h2⟩ := hx i (by rw [hmm]; split <;> omega)
      obtain ⟨z, rfl, _, hw⟩ := DataW.trod_int he h2
      have := wf_u32 hw
      have hB : Bs = 4294967296 := rfl
      exact ⟨_, z.toNat, h1, ⟨by rw [Int.toNat_of_nonneg this.1], by omega⟩, trivial⟩)
    subst hll
    exact ⟨some a, cap, l, rfl, hl, by omega, mag_of hs⟩
/-- A struct's fields: their types and where they begin. -/
def stN (P : Program) (t : TypeId) : Option (List (Nat × Nat)) :=
  match P.underlying t with
  | some (.struct fs) => some (fs.toList.map fun f => (f.type, f.offset))
  | _ => none
theorem open_fields {t : TypeId} {fl : List (Nat × Nat)} {fuel : Nat} {cs : List Value} {x : DataW H × List MemPlace} (ht : stN P t = some fl) (h : DataW.trod enc P W base spare held fuel t cs = some x) :
    cs.length = P.cellsOf t ∧ ∃ n, ∀ (i ty off : Nat), fl[i]? = some (ty, off) → ∃ y, DataW.trod enc P W base spare held n ty ((cs.drop off).take (P.cellsOf ty)) = some y := by
  unfold stN at ht
  split at ht
  · rename_i fs hu
    cases ht
    obtain ⟨xs, n, _, rfl, hl, hlen, hf⟩ := DataW.trod_struct hu h
    refine ⟨hl, n, fun i ty off hi => ?_⟩
    rw [List.getElem?_map] at hi
    cases e : fs.toList[i]? with
    | none => rw [e] at hi; cases hi
    | some f =>
      rw [e] at hi
      simp only [Option.map_some, Option.some.injEq, Prod.mk.injEq] at hi
      have e2 : fs[i]? = some f := by simpa using e
      have hx := hf i f e2
      have hi2 : i < xs.length := by rw [hlen]; exact (Array.getElem?_eq_some_iff.1 e2).1
      rw [hi.1, hi.2] at hx
      exact ⟨xs[i], by rw [hx]; simp [hi2]⟩
  · cases ht
/-- An integer's cells. -/
theorem open_raw {t tb ts e : TypeId} {fuel : Nat} {cs : List Value} {x : DataW H × List MemPlace} (ht : stN P t = some [(tb, 0), (ts, 1)]) (hcs : P.cellsOf t = 2)
    (h0 : P.underlying tb = some .bool ∧ P.cellsOf tb = 1) (h1 : P.underlying ts = some (.slice e) ∧ P.cellsOf ts = 1) (he : P.underlying e = some (.int .u32)) (hc : P.cellsOf e = 1)
    (h : DataW.trod enc P W base spare held fuel t cs = some x) : ∃ neg p c l, cs = [.bool neg, .slice p l.length c] ∧ l.length ≤ c ∧ l.length ≤ maxLen ∧ MagAt (HW W) (.slice p l.length c) l := by
  obtain ⟨hlen, n, hf⟩ := open_fields ht h
  rw [hcs] at hlen
  obtain ⟨y0, g0⟩ := hf 0 _ _ rfl
  obtain ⟨y1, g1⟩ := hf 1 _ _ rfl
  match cs, hlen with
  | [c0, c1], _ =>
    rw [h0.2] at g0
    rw [h1.2] at g1
    obtain ⟨neg, e0, _⟩ := DataW.trod_bool h0.1 g0
    obtain ⟨p, c, l, e1, k1, k2, k3⟩ := open_mag h1.1 he hc g1
    simp at e0 e1
    subst e0 e1
    exact ⟨neg, p, c, l, rfl, k1, k2, k3⟩
/-- A term's cells. -/
theorem open_term {t ti tv tb ts e : TypeId} {fuel : Nat} {cs : List Value} {x : DataW H × List MemPlace} (ht : stN P t = some [(ti, 0), (tv, 1)]) (hcs : P.cellsOf t = 3) (hi : P.underlying ti = some (.int .i64) ∧ P.cellsOf ti = 1)
    (hv : stN P tv = some [(tb, 0), (ts, 1)]) (hvs : P.cellsOf tv = 2) (h0 : P.underlying tb = some .bool ∧ P.cellsOf tb = 1) (h1 : P.underlying ts = some (.slice e) ∧ P.cellsOf ts = 1) (he : P.underlying e = some (.int .u32)) (hc : P.cellsOf e = 1)
    (h : DataW.trod enc P W base spare held fuel t cs = some x) : ∃ r : RT, TermR (HW W) cs r ∧ r.2.2.length ≤ maxLen := by
  obtain ⟨hlen, n, hf⟩ := open_fields ht h
  rw [hcs] at hlen
  obtain ⟨y0, g0⟩ := hf 0 _ _ rfl
  obtain ⟨y1, g1⟩ := hf 1 _ _ rfl
  match cs, hlen with
  | [c0, c1, c2], _ =>
    rw [hi.2] at g0
    rw [hvs] at g1
    obtain ⟨z, e0, _⟩ := DataW.trod_int hi.1 g0
    obtain ⟨neg, p, c, l, e1, k1, k2, k3⟩ := open_raw hv hvs h0 h1 he hc g1
    simp at e0 e1
    obtain ⟨e1, e2⟩ := e1
    subst e0 e1 e2
    exact ⟨(z, neg, l), ⟨p, c, rfl, k1, k3⟩, k2⟩
/-- A slice of elements. -/
theorem open_sls {α : Type} {R : Heap → List Value → α → Prop} {Pr : α → Prop} {t e : TypeId} {sz fuel : Nat} {cs : List Value} {x : DataW H × List MemPlace} (ht : P.underlying t = some (.slice e)) (hc : P.cellsOf e = sz) (hz : 0 < sz)
    (el : ∀ n cs' y, DataW.trod enc P W base spare held n e cs' = some y → ∃ a, R (HW W) cs' a ∧ Pr a) (h : DataW.trod enc P W base spare held fuel t cs = some x) :
    ∃ p c l, cs = [.slice p l.length c] ∧ Sls R sz (HW W) (.slice p l.length c) l ∧ ∀ a ∈ l, Pr a := by
  rcases Go.Deep.open_slice ht h with ⟨rfl, _⟩ | ⟨a, len, cap, m, n, D, Pl, rfl, _, hl, hm, hmm, _, hx⟩
  · exact ⟨none, 0, [], rfl, Sls.nil _, fun a ha => by cases ha⟩
  · rw [hc] at hx
    obtain ⟨l, hll, hs, hp⟩ := sls_open (R := R) (W := W) (base := base) (a := a) (sz := sz) hz hl Pr (fun i hi => by
      obtain ⟨cs', h1, h2⟩ := hx i (by rw [hmm]; split <;> omega)
      obtain ⟨b, hb1, hb2⟩ := el _ _ _ h2
      exact ⟨_, b, h1, hb1, hb2⟩)
    subst hll
    exact ⟨some a, cap, l, rfl, hs, hp⟩
end
end Go.Z
end
section
set_option linter.unusedSimpArgs false
set_option linter.unusedVariables false
/- Opening the law's arguments: bytes and raw matrices. -/
set_option linter.unusedSimpArgs false
set_option linter.unusedVariables false
namespace Go.Z
open Go Go.RowKit Go.Proofs
section
variable {H : Type} {enc : TypeId × Value → H} {W : World} {base : Nat} {spare : Nat → Bool} {held : Bool} {fuel : Nat} {x : DataW H × List MemPlace}
set_option maxRecDepth 100000 in
theorem open_i8s {cs : List Value} (h : DataW.trod enc Try.prog W base spare held fuel 28 cs = some x) : ∃ p c l, cs = [.slice p l.length c] ∧ Sls (KR .i8) 1 (HW W) (.slice p l.length c) l := by
  obtain ⟨p, c, l, e, hs, _⟩ := open_sls (R := KR .i8) (Pr := fun _ : Int => True) (e := 29) (sz := 1) (by kernel_rfl) (by kernel_rfl) (by decide) (fun n cs' y hy => by
    obtain ⟨z, rfl, _, hw⟩ := DataW.trod_int (k := .i8) (by kernel_rfl) hy
    exact ⟨z, rfl, trivial⟩) h
  exact ⟨p, c, l, e, hs⟩
theorem wf_u8 {n : Int} (h : (Lit.int .u8 n).wf = true) : 0 ≤ n ∧ n ≤ 255 := by
  simp only [Lit.wf, Bool.and_eq_true, decide_eq_true_eq] at h
  have h1 := h.1
  have h2 := h.2
  simp [IntKind.min, IntKind.max, IntKind.signed, IntKind.bits] at h1 h2
  exact ⟨h1, by omega⟩
set_option maxRecDepth 100000 in
theorem open_raw6 {cs : List Value} (h : DataW.trod enc Try.prog W base spare held fuel 46 cs = some x) : ∃ x : R06Raw, R06RawR (HW W) cs x ∧ (0 ≤ x.Rows ∧ x.Rows ≤ 255) ∧ (0 ≤ x.Cols ∧ x.Cols ≤ 255) := by
  obtain ⟨hlen, n, hf⟩ := open_fields (fl := [(5, 0), (5, 1), (28, 2)]) (by kernel_rfl) h
  obtain ⟨y0, g0⟩ := hf 0 _ _ rfl
  obtain ⟨y1, g1⟩ := hf 1 _ _ rfl
  obtain ⟨y2, g2⟩ := hf 2 _ _ rfl
  have c46 : Try.prog.cellsOf 46 = 3 := by kernel_rfl
  have c5 : Try.prog.cellsOf 5 = 1 := by kernel_rfl
  have c28 : Try.prog.cellsOf 28 = 1 := by kernel_rfl
  rw [c46] at hlen
  match cs, hlen with
  | [a, b, c], _ =>
    clear hf
    rw [c5] at g0 g1
    rw [c28] at g2
    obtain ⟨u, e0, _, w0⟩ := DataW.trod_int (k := .u8) (by kernel_rfl) g0
    obtain ⟨w, e1, _, w1⟩ := DataW.trod_int (k := .u8) (by kernel_rfl) g1
    obtain ⟨p, k, l, e2, hs⟩ := open_i8s g2
    simp at e0 e1 e2
    subst e0 e1 e2
    exact ⟨⟨u, w, l⟩, ⟨p, _, k, rfl, hs⟩, wf_u8 w0, wf_u8 w1⟩
end
theorem R06RawR.agg {h : Heap} {v : Value} {x : R06Raw} (r : R06RawR h v.cells.toList x) : AggV R06RawR h v x := by
  obtain ⟨p, n, c, e, s⟩ := r
  refine ⟨_, ?_, p, n, c, rfl, s⟩
  cases v <;> simp [Value.cells] at e
  rename_i cs
  have : cs = ⟨[.int .u8 x.Rows, .int .u8 x.Cols, .slice p n c]⟩ := Array.ext' e
  rw [this]
end Go.Z
end
