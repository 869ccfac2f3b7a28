/- Texts of ours, joined: L6bW. -/
import Derived.Test.YtjdfhlkpfjhjoaaX4
import Derived.Test.YtjdfhlkpfjhjoaaX1
import Derived.Test.YtjdfhlkpfjhjoaaX11
section
set_option linter.unusedSimpArgs false
set_option linter.unusedVariables false
/- Functions of the program return what their models compute; printed by wip/tools/gx.py. -/
set_option linter.unusedVariables false
set_option linter.unusedSimpArgs false
namespace Go.Z
open Go Go.RowKit Go.Proofs
set_option maxHeartbeats 4000000 in
theorem torsionref06_Vec_fn {h : Heap} {x0 : List Int} {x1 : Int} {v0 : Value} (r0 : Sls (KR .i8) 1 h v0 x0) {r : (List Int)} (hm : M.torsionref06_Vec x0 x1 = some r) :
    Fn Try.prog 13 #[v0, .int .i64 x1] h fun v h' => Sls IntR 2 h' v r := by
  obtain ⟨p21, n22, c23, rfl, f24⟩ := Sls.op3 r0
  refine Fn.intro (args := [_, _]) Try.func13 rfl rfl (Nat.le_of_ble_eq_true rfl) fun w => ?_
  unfold M.torsionref06_Vec at hm
  refine J.seq ?_
  refine J.region ?_
  first | refine o_q (q_asv (v := .slice _ _ _) rfl) ?_ | refine o_q (q_as) ?_
  refine JL.nil ?_
  refine J.seq ?_
  refine J.region ?_
  first | refine o_bs [] (by decide) rfl (fun b25 => ?_) | refine o_bs [] (by decide) rfl (fun b25 => ?_)
  refine JL.fact (fun h => Cells IntR 2 h [] ([] : List Int)) (show Cells IntR 2 _ [] ([] : List Int) from Cells.nil) (fun hc26 => ?_)
  refine JL.fact (fun h => OwnL IntR 37 2 h (.slice (some ⟨b25, 0, none⟩) 0 0) ([] : List Int) [(b25, row 37 [])]) (OwnL.lit _ rfl hc26 rfl) (fun ho27 => ?_)
  first | refine o_q (q_asv (v := .slice _ _ _) rfl) ?_ | refine o_q (q_as) ?_
  refine JL.nil ?_
  refine J.seq ?_
  refine J.seq ?_
  refine J.region ?_
  first | refine o_q (q_asv (v := .int _ _) rfl) ?_ | refine o_q (q_as) ?_
  refine JL.nil ?_
  refine J.block ?_
  obtain ⟨k41, hm⟩ := rngN_some hm
  refine J.loopK (α := Int × (List Int) × (List Int) × (Option Addr) × Nat × Nat × (Option Addr) × Nat × Nat × Own) (fun ⟨i40, v28, v33, p29, n30, c31, p34, n35, c36, L38⟩ h' L' => Sls (KR .i8) 1 h' (.slice p29 n30 c31) v28 ∧ OwnL IntR 37 2 h' (.slice p34 n35 c36) v33 L38 ∧ 0 ≤ i40 ∧ forN M.torsionref06_Vec_b2 M.torsionref06_Vec_k2 x1 i40 (v28, v33) = some r ∧ Sp (L38 ++ ([])) L') [(1, .int _ _)] ⟨rfl, trivial⟩ (fun ⟨i40, v28, v33, p29, n30, c31, p34, n35, c36, L38⟩ => [(0, .slice p29 n30 c31), (5, .slice p34 n35 c36), (6, .int .i64 i40)]) (fun ⟨i40, v28, v33, p29, n30, c31, p34, n35, c36, L38⟩ => (x1 - i40).toNat) ⟨0, x0, ([] : List Int), p21, n22, c23, (some ⟨b25, 0, none⟩), 0, 0, [(b25, row 37 [])]⟩ ⟨(Sls.mono f24), (OwnL.mono ho27), Int.le_refl _, hm, inferInstance⟩ ⟨rfl, rfl, rfl, trivial⟩ ?_
  rintro ⟨i40, v28, v33, p29, n30, c31, p34, n35, c36, L38⟩ σq42 hq42 Lq42 sq42 ⟨f32, f37, hle43, hm, hspq42⟩
  refine J.sp hspq42 ?_
  refine J.seq ?_
  refine J.seq ?_
  refine J.region ?_
  first | refine o_q (q_mvv (v := .int _ _) rfl) ?_ | refine o_q (q_mv) ?_
  first | refine o_q (q_mvv (v := .int _ _) rfl) ?_ | refine o_q (q_mv) ?_
  refine o_q (q_lss rfl rfl) ?_
  refine JL.nil ?_
  by_cases c46 : i40 < x1
  ·
    obtain ⟨o44, hm, hk45⟩ := forN_lt c46 hm
    unfold M.torsionref06_Vec_b2 at hm
    refine J.condT rfl (decide_eq_true c46) ?_
    have k47 : -9223372036854775808 ≤ i40 + 1 ∧ i40 + 1 ≤ 9223372036854775807 := by omega
    refine J.skip ?_
    refine J.seq ?_
    refine J.block ?_
    refine J.seq ?_
    obtain ⟨y53, e52, hm⟩ := bnd_some hm
    refine J.region ?_
    refine o_call (torsionref06_zero_fn e52) (fun v48 h49 s50 r51 => ?_)
    obtain ⟨g54, p55, n56, c57, rfl, f58⟩ := IntAt.op r51
    refine o_al (fun b59 => ?_)
    first | refine o_stc (vs := [.bool _, .slice _ _ _]) (l' := [.bool _, .slice _ _ _]) rfl rfl rfl rfl rfl inferInstance rfl rfl ?_ | refine o_stc (vs := [_, _]) (l' := [_, _]) rfl rfl rfl rfl rfl inferInstance rfl rfl ?_
    refine JL.nil ?_
    refine J.seq ?_
    refine J.joinK (α := Int × (List Int) × Bool × (Option Addr) × Nat × Nat × (Option Addr) × Nat × Nat) (fun ⟨v61, v67, g62, p63, n64, c65, p68, n69, c70⟩ h' L' => IntR h' [.bool g62, .slice p63 n64 c65] v61 ∧ Sls (KR .i8) 1 h' (.slice p68 n69 c70) v67 ∧ (M.torsionref06_Vec_j1 v33) v61 v67 = some o44 ∧ Sp (L38 ++ ([(b59, row 37 [.bool g62, .slice p63 n64 c65])])) L') [(1, .int _ _), (5, .slice _ _ _), (6, .int _ _), (7, .pointer _)] ⟨rfl, rfl, rfl, rfl, trivial⟩ (fun ⟨v61, v67, g62, p63, n64, c65, p68, n69, c70⟩ => [(0, .slice p68 n69 c70)]) ?_ ?_
    ·
      refine J.seq ?_
      refine J.region ?_
      first | refine o_q (q_mvv (v := .int _ _) rfl) ?_ | refine o_q (q_mv) ?_
      first | refine o_q (q_mvv (v := .slice _ _ _) rfl) ?_ | refine o_q (q_mv) ?_
      refine o_q (q_lenE (k := v28.length) rfl (Sls.len f32)) ?_
      refine o_q (q_lss rfl rfl) ?_
      refine JL.nil ?_
      by_cases c92 : i40 < (v28.length : Int)
      ·
        replace hm := ite_T c92 hm
        refine J.condT rfl (decide_eq_true c92) ?_
        obtain ⟨i94, x93, hi95, hl96, hx97, hm⟩ := nth_some hm
        obtain ⟨b98, o99, rfl⟩ := Sls.op f32 hl96
        obtain ⟨us100, hc101, hR102⟩ := Sls.at f32 hx97
        obtain rfl := KR.op hR102
        obtain ⟨k103, hm⟩ := chk64_some hm
        obtain ⟨y109, e108, hm⟩ := bnd_some hm
        refine J.region ?_
        first | refine o_q (q_mvv (v := .slice _ _ _) rfl) ?_ | refine o_q (q_mv) ?_
        first | refine o_q (q_mvv (v := .int _ _) rfl) ?_ | refine o_q (q_mv) ?_
        refine o_q (q_ian rfl rfl hi95 (by first | exact hl96 | (rw [Sls.len f32]; exact hl96))) ?_
        refine o_q (q_ldf rfl hc101) ?_
        refine o_q (q_rem rfl rfl (by decide) rfl) ?_
        refine o_q (q_cv rfl (wi64 k103)) ?_
        refine o_call (rof_fn e108) (fun v104 h105 s106 r107 => ?_)
        obtain ⟨g110, p111, n112, c113, rfl, f114⟩ := IntAt.op r107
        first | refine o_stc (vs := [.bool _, .slice _ _ _]) (l' := [.bool _, .slice _ _ _]) rfl rfl rfl rfl rfl inferInstance rfl rfl ?_ | refine o_stc (vs := [_, _]) (l' := [_, _]) rfl rfl rfl rfl rfl inferInstance rfl rfl ?_
        refine JL.nil ?_
        exact ⟨⟨y109, v28, g110, p111, n112, c113, (some ⟨b98, o99, none⟩), n30, c31⟩, rfl, ⟨rfl, rfl, rfl, rfl, trivial⟩, ⟨rfl, trivial⟩, ⟨(Mo.up f114), (Sls.mono f32), hm, inferInstance⟩, inferInstance⟩
      ·
        replace hm := ite_F c92 hm
        refine J.condF rfl (decide_eq_false c92) ?_
        refine J.skip ?_
        exact ⟨⟨y53, v28, g54, p55, n56, c57, p29, n30, c31⟩, rfl, ⟨rfl, rfl, rfl, rfl, trivial⟩, ⟨rfl, trivial⟩, ⟨(Mo.up f58), (Sls.mono f32), hm, inferInstance⟩, inferInstance⟩
    ·
      rintro ⟨v61, v67, g62, p63, n64, c65, p68, n69, c70⟩ σq72 hq72 Lq72 sq72 ⟨f66, f71, hm, hspq72⟩
      refine J.sp hspq72 ?_
      unfold M.torsionref06_Vec_j1 at hm
      obtain ⟨l86, e87, hm⟩ := bnd_some hm
      refine J.region ?_
      first | refine o_q (q_mvv (v := .slice _ _ _) rfl) ?_ | refine o_q (q_mv) ?_
      refine o_q (q_lda (vs := [_, _]) rfl inferInstance ⟨rfl, rfl, trivial⟩) ?_
      first | refine o_bs [.bool _, .slice _ _ _] (by decide) rfl (fun b83 => ?_) | refine o_bs [_, _] (by decide) rfl (fun b83 => ?_)
      refine JL.fact (fun h => Cells IntR 2 h [.bool g62, .slice p63 n64 c65] [v61]) (show Cells IntR 2 _ [.bool g62, .slice p63 n64 c65] [v61] from (Cells.cons (R := IntR) (us := [.bool g62, .slice p63 n64 c65]) rfl (Mo.up f66) Cells.nil)) (fun hc84 => ?_)
      refine JL.fact (fun h => OwnL IntR 37 2 h (.slice (some ⟨b83, 0, none⟩) 1 1) [v61] [(b83, row 37 [.bool g62, .slice p63 n64 c65])]) (OwnL.lit _ rfl hc84 rfl) (fun ho85 => ?_)
      refine o_appB (R := IntR) rfl rfl (OwnL.mono f37) inferInstance hc84 e87 (fun p88 c89 L90 ho91 => ?_)
      first | refine o_q (q_asv (v := .slice _ _ _) rfl) ?_ | refine o_q (q_as) ?_
      refine JL.nil ?_
      refine J.region ?_
      first | refine o_q (q_mvv (v := .int _ _) rfl) ?_ | refine o_q (q_mv) ?_
      refine o_q (q_add rfl rfl (wi64 k47)) ?_
      first | refine o_q (q_asv (v := .int _ _) rfl) ?_ | refine o_q (q_as) ?_
      refine JL.nil ?_
      replace hm := inl_onward hm hk45
      exact ⟨⟨i40 + 1, v67, l86, p68, n69, c70, p88, l86.length, c89, L90⟩, rfl, ⟨rfl, trivial⟩, ⟨rfl, rfl, rfl, trivial⟩, ⟨(Sls.mono f71), (OwnL.mono ho91), Int.le_trans hle43 (Int.le_of_lt (Int.lt_succ _)), hm, inferInstance⟩, (muN c46), inferInstance⟩
  ·
    replace hm := forN_ge c46 hm
    unfold M.torsionref06_Vec_k2 at hm
    refine J.condF rfl (decide_eq_false c46) ?_
    refine J.exit ?_
    refine J.seq ?_
    refine J.region ?_
    first | refine o_q (q_mvv (v := .slice _ _ _) rfl) ?_ | refine o_q (q_mv) ?_
    first | refine o_q (q_asv (v := .slice _ _ _) rfl) ?_ | refine o_q (q_as) ?_
    refine JL.nil ?_
    refine J.fzO (R := IntR) (OwnL.mono f37) (fun h115 s116 f117 => ?_)
    refine J.ret ?_
    obtain rfl := Option.some.inj hm
    exact ret_ok (fn := Try.f13) rfl (.tmp rfl .nil) (Sls.mono f117)
set_option maxHeartbeats 4000000 in
theorem torsionref06_To_fn {h : Heap} {x0 : TSparse} {v0 : Value} (r0 : AggV TSparseR h v0 x0) {r : TMat} (hm : M.torsionref06_To x0 = some r) :
    Fn Try.prog 41 #[v0] h fun v h' => AggV TMatR h' v r := by
  obtain ⟨_, rfl, p21, n22, c23, rfl, f24⟩ := r0
  refine Fn.intro (args := [_]) Try.func41 rfl rfl (Nat.le_of_ble_eq_true rfl) fun w => ?_
  unfold M.torsionref06_To at hm
  refine J.seq ?_
  refine J.region ?_
  first | refine o_bx (v := .agg ⟨[.int _ _, .int _ _, .slice _ _ _]⟩) rfl rfl (fun b25 => ?_) | refine o_bx rfl rfl (fun b25 => ?_)
  refine o_al (fun b26 => ?_)
  refine JL.nil ?_
  refine J.seq ?_
  refine J.region ?_
  refine o_q (q_fa rfl) ?_
  refine o_q (q_ld rfl inferInstance rfl) ?_
  refine o_q (q_fa rfl) ?_
  refine o_q (q_ld rfl inferInstance rfl) ?_
  first | refine o_q (q_bd [.int _ _, .int _ _, .slice _ _ _] rfl) ?_ | refine o_q (q_bd [_, _, _] rfl) ?_
  refine o_al (fun b27 => ?_)
  first | refine o_stc (vs := [.int _ _, .int _ _, .slice _ _ _]) (l' := [.int _ _, .int _ _, .slice _ _ _]) rfl rfl rfl rfl rfl inferInstance rfl rfl ?_ | refine o_stc (vs := [_, _, _]) (l' := [_, _, _]) rfl rfl rfl rfl rfl inferInstance rfl rfl ?_
  refine JL.nil ?_
  refine J.seq ?_
  refine J.seq ?_
  refine J.region ?_
  first | refine o_q (q_asv (v := .int _ _) rfl) ?_ | refine o_q (q_as) ?_
  refine JL.nil ?_
  refine J.block ?_
  obtain ⟨hl36, hm⟩ := rngL_some hm
  refine J.loopK (α := Nat × (List (List Int)) × (Option Addr) × Nat × Nat × Own) (fun ⟨i35, v28, p29, n30, c31, L33⟩ h' L' => OwnL (LR IntR 2) 32 1 h' (.slice p29 n30 c31) v28 L33 ∧ forL (M.torsionref06_To_b1 x0) (M.torsionref06_To_k1 x0) (List.drop i35 x0.L) i35 v28 = some r ∧ Sp (L33 ++ ([(b25, row 24 [.int .i64 x0.Rows, .int .i64 x0.Cols, .slice p21 n22 c23]), (b26, row 50 [.int .i64 0, .int .i64 0, .slice none 0 0]), (b27, row 50 [.int .i64 x0.Rows, .int .i64 x0.Cols, .slice p29 n30 c31])])) L') [(1, .pointer _), (2, .pointer _), (3, .pointer _)] ⟨rfl, rfl, rfl, trivial⟩ (fun ⟨i35, v28, p29, n30, c31, L33⟩ => [(4, .int .i64 (i35 : Int))]) (fun ⟨i35, v28, p29, n30, c31, L33⟩ => x0.L.length - i35) ⟨0, ([] : List (List Int)), none, 0, 0, []⟩ ⟨(OwnL.nil _), hm, inferInstance⟩ ⟨rfl, trivial⟩ ?_
  rintro ⟨i35, v28, p29, n30, c31, L33⟩ σq37 hq37 Lq37 sq37 ⟨f32, hm, hspq37⟩
  refine J.sp hspq37 ?_
  refine J.seq ?_
  refine J.seq ?_
  refine J.region ?_
  first | refine o_q (q_mvv (v := .int _ _) rfl) ?_ | refine o_q (q_mv) ?_
  refine o_q (q_fa rfl) ?_
  refine o_q (q_ld rfl inferInstance rfl) ?_
  refine o_q (q_lenE (k := x0.L.length) rfl (Sls.len f24)) ?_
  refine o_q (q_lss rfl rfl) ?_
  refine JL.nil ?_
  by_cases c41 : (i35 : Int) < (x0.L.length : Int)
  ·
    obtain ⟨x42, o39, hl43, hx44, hm, hk40⟩ := forL_cons c41 hm
    unfold M.torsionref06_To_b1 at hm
    refine J.condT rfl (decide_eq_true c41) ?_
    have k45 : -9223372036854775808 ≤ (i35 : Int) + 1 ∧ (i35 : Int) + 1 ≤ 9223372036854775807 := by omega
    refine J.skip ?_
    refine J.seq ?_
    refine J.block ?_
    obtain ⟨b46, o47, rfl⟩ := Sls.op f24 hl43
    obtain ⟨us48, hc49, hR50⟩ := Sls.at f24 hx44
    obtain ⟨p51, n52, c53, rfl, f54⟩ := hR50
    obtain ⟨y60, e59, hm⟩ := bnd_some hm
    obtain ⟨l68, e69, hm⟩ := bnd_some hm
    refine J.drawB [b27, b25] [13] ?_
    refine JD.calc 0 (by kernel_rfl) rfl trivial ss_subB (q_fa rfl) ?_
    refine JD.loadB 1 (by kernel_rfl) rfl trivial (q_ld rfl inferInstance rfl) ?_
    refine JD.calc 2 (by kernel_rfl) rfl trivial ss_subB (q_fa rfl) ?_
    refine JD.loadB 3 (by kernel_rfl) rfl trivial (q_ld rfl inferInstance rfl) ?_
    first | refine JD.calc 4 (by kernel_rfl) rfl trivial ss_subB (q_mvv (v := .int _ _) rfl) ?_ | refine JD.calc 4 (by kernel_rfl) rfl trivial ss_subB (q_mv) ?_
    refine JD.calc 5 (by kernel_rfl) rfl trivial ss_subB (q_ian rfl rfl rfl (by first | exact hl43 | (rw [Sls.len f24]; exact hl43))) ?_
    refine JD.loadB 6 (by kernel_rfl) rfl trivial (q_ldf rfl hc49) ?_
    refine JD.calc 7 (by kernel_rfl) rfl trivial ss_subB (q_fa rfl) ?_
    refine JD.loadB 8 (by kernel_rfl) rfl trivial (q_ld rfl inferInstance rfl) ?_
    refine JD.one 9 (by kernel_rfl) ?_
    refine JX.effB rfl rfl trivial ?_
    refine o_call (torsionref06_Full_fn (Sls.mono f54) e59) (fun v55 h56 s57 r58 => ?_)
    obtain ⟨p61, n62, c63, rfl, f64⟩ := Sls.op3 r58
    refine JL.nil ⟨rfl, inferInstance, inferInstance, ?_⟩
    refine JD.one 10 (by kernel_rfl) ?_
    refine JX.effB rfl rfl trivial ?_
    first | refine o_bs [.slice _ _ _] (by decide) rfl (fun b65 => ?_) | refine o_bs [_] (by decide) rfl (fun b65 => ?_)
    refine JL.fact (fun h => Cells (LR IntR 2) 1 h [.slice p61 n62 c63] [y60]) (show Cells (LR IntR 2) 1 _ [.slice p61 n62 c63] [y60] from (Cells.cons (R := (LR IntR 2)) (us := [.slice p61 n62 c63]) rfl ⟨_, _, _, rfl, Sls.mono f64⟩ Cells.nil)) (fun hc66 => ?_)
    refine JL.fact (fun h => OwnL (LR IntR 2) 32 1 h (.slice (some ⟨b65, 0, none⟩) 1 1) [y60] [(b65, row 32 [.slice p61 n62 c63])]) (OwnL.lit _ rfl hc66 rfl) (fun ho67 => ?_)
    refine JL.nil ⟨rfl, inferInstance, inferInstance, ?_⟩
    refine JD.one 11 (by kernel_rfl) ?_
    refine JX.effB rfl rfl trivial ?_
    refine o_appB (R := (LR IntR 2)) rfl rfl (OwnL.mono f32) inferInstance hc66 e69 (fun p70 c71 L72 ho73 => ?_)
    refine JL.nil ⟨rfl, inferInstance, inferInstance, ?_⟩
    refine JD.calc 12 (by kernel_rfl) rfl trivial ss_subB (q_fa rfl) ?_
    refine JD.one 13 (by kernel_rfl) ?_
    refine JX.mut rfl rfl trivial ?_
    first | refine o_stc (vs := [.slice _ _ _]) (l' := [.int _ _, .int _ _, .slice _ _ _]) rfl rfl rfl rfl rfl inferInstance rfl rfl ?_ | refine o_stc (vs := [_]) (l' := [_, _, _]) rfl rfl rfl rfl rfl inferInstance rfl rfl ?_
    refine JL.nil ⟨rfl, ?_⟩
    refine JD.done (by kernel_rfl) ?_ _
    --
    refine J.region ?_
    first | refine o_q (q_mvv (v := .int _ _) rfl) ?_ | refine o_q (q_mv) ?_
    refine o_q (q_add rfl rfl (wi64 k45)) ?_
    first | refine o_q (q_asv (v := .int _ _) rfl) ?_ | refine o_q (q_as) ?_
    refine JL.nil ?_
    replace hm := inl_onward hm hk40
    exact ⟨⟨i35 + 1, l68, p70, l68.length, c71, L72⟩, rfl, ⟨rfl, rfl, rfl, trivial⟩, ⟨rfl, trivial⟩, ⟨(OwnL.mono ho73), hm, inferInstance⟩, (muL hl43), inferInstance⟩
  ·
    replace hm := forL_nil c41 hm
    unfold M.torsionref06_To_k1 at hm
    refine J.condF rfl (decide_eq_false c41) ?_
    refine J.exit ?_
    refine J.seq ?_
    refine J.region ?_
    refine o_q (q_lda (vs := [_, _, _]) rfl inferInstance ⟨rfl, rfl, rfl, trivial⟩) ?_
    first | refine o_stc (vs := [.int _ _, .int _ _, .slice _ _ _]) (l' := [.int _ _, .int _ _, .slice _ _ _]) rfl rfl rfl rfl rfl inferInstance rfl rfl ?_ | refine o_stc (vs := [_, _, _]) (l' := [_, _, _]) rfl rfl rfl rfl rfl inferInstance rfl rfl ?_
    refine JL.nil ?_
    refine J.fzO (R := (LR IntR 2)) (OwnL.mono f32) (fun h74 s75 f76 => ?_)
    refine J.ret ?_
    obtain rfl := Option.some.inj hm
    exact ret_ok (fn := Try.f41) rfl (.agg rfl inferInstance inferInstance .nil) ⟨_, rfl, ⟨_, _, _, rfl, Sls.mono f76⟩⟩
set_option maxHeartbeats 4000000 in
theorem torsionref06_SameVec_fn {h : Heap} {x0 : List Int} {x1 : List Int} {v0 : Value} {v1 : Value} (r0 : Sls IntR 2 h v0 x0) (r1 : Sls IntR 2 h v1 x1) {r : Bool} (hm : M.torsionref06_SameVec x0 x1 = some r) :
    Fn Try.prog 35 #[v0, v1] h fun v h' => v = .bool r := by
  obtain ⟨p21, n22, c23, rfl, f24⟩ := Sls.op3 r0
  obtain ⟨p25, n26, c27, rfl, f28⟩ := Sls.op3 r1
  refine Fn.intro (args := [_, _]) Try.func35 rfl rfl (Nat.le_of_ble_eq_true rfl) fun w => ?_
  unfold M.torsionref06_SameVec at hm
  refine J.seq ?_
  refine J.region ?_
  first | refine o_q (q_asv (v := .bool _) rfl) ?_ | refine o_q (q_as) ?_
  refine JL.nil ?_
  refine J.seq ?_
  refine J.seq ?_
  refine J.region ?_
  first | refine o_q (q_mvv (v := .slice _ _ _) rfl) ?_ | refine o_q (q_mv) ?_
  refine o_q (q_lenE (k := x0.length) rfl (Sls.len f24)) ?_
  first | refine o_q (q_mvv (v := .slice _ _ _) rfl) ?_ | refine o_q (q_mv) ?_
  refine o_q (q_lenE (k := x1.length) rfl (Sls.len f28)) ?_
  refine o_q (q_neq rfl rfl) ?_
  refine JL.nil ?_
  by_cases c29 : (x0.length : Int) = (x1.length : Int)
  ·
    replace hm := ite_T c29 hm
    refine J.condF rfl (decide_eq_false (fun z => z c29)) ?_
    refine J.skip ?_
    refine J.seq ?_
    refine J.seq ?_
    refine J.region ?_
    first | refine o_q (q_asv (v := .int _ _) rfl) ?_ | refine o_q (q_as) ?_
    refine JL.nil ?_
    refine J.block ?_
    obtain ⟨hl32, hm⟩ := rngL_some hm
    refine J.loopK (α := Nat) (fun i31 h' L' => forL (M.torsionref06_SameVec_b1 x1) M.torsionref06_SameVec_k1 (List.drop i31 x0) i31 () = some r ∧ Sp ([]) L') [(0, .slice _ _ _), (1, .slice _ _ _)] ⟨rfl, rfl, trivial⟩ (fun i31 => [(5, .int .i64 (i31 : Int))]) (fun i31 => x0.length - i31) 0 ⟨hm, inferInstance⟩ ⟨rfl, trivial⟩ ?_
    rintro i31 σq33 hq33 Lq33 sq33 ⟨hm, hspq33⟩
    refine J.sp hspq33 ?_
    refine J.seq ?_
    refine J.seq ?_
    refine J.region ?_
    first | refine o_q (q_mvv (v := .int _ _) rfl) ?_ | refine o_q (q_mv) ?_
    first | refine o_q (q_mvv (v := .slice _ _ _) rfl) ?_ | refine o_q (q_mv) ?_
    refine o_q (q_lenE (k := x0.length) rfl (Sls.len f24)) ?_
    refine o_q (q_lss rfl rfl) ?_
    refine JL.nil ?_
    by_cases c37 : (i31 : Int) < (x0.length : Int)
    ·
      obtain ⟨x38, o35, hl39, hx40, hm, hk36⟩ := forL_cons c37 hm
      unfold M.torsionref06_SameVec_b1 at hm
      refine J.condT rfl (decide_eq_true c37) ?_
      have k41 : -9223372036854775808 ≤ (i31 : Int) + 1 ∧ (i31 : Int) + 1 ≤ 9223372036854775807 := by omega
      refine J.skip ?_
      refine J.seq ?_
      refine J.block ?_
      refine J.seq ?_
      obtain ⟨b42, o43, rfl⟩ := Sls.op f24 hl39
      obtain ⟨us44, hc45, hR46⟩ := Sls.at f24 hx40
      obtain ⟨g47, p48, n49, c50, rfl, f51⟩ := IntR.op hR46
      obtain ⟨i53, x52, hi54, hl55, hx56, hm⟩ := nth_some hm
      obtain ⟨b57, o58, rfl⟩ := Sls.op f28 hl55
      obtain ⟨us59, hc60, hR61⟩ := Sls.at f28 hx56
      obtain ⟨g62, p63, n64, c65, rfl, f66⟩ := IntR.op hR61
      obtain ⟨y72, e71, hm⟩ := bnd_some hm
      refine J.drawB [] [] ?_
      first | refine JD.calc 0 (by kernel_rfl) rfl trivial ss_subB (q_mvv (v := .slice _ _ _) rfl) ?_ | refine JD.calc 0 (by kernel_rfl) rfl trivial ss_subB (q_mv) ?_
      first | refine JD.calc 1 (by kernel_rfl) rfl trivial ss_subB (q_mvv (v := .int _ _) rfl) ?_ | refine JD.calc 1 (by kernel_rfl) rfl trivial ss_subB (q_mv) ?_
      refine JD.calc 2 (by kernel_rfl) rfl trivial ss_subB (q_ian rfl rfl rfl (by first | exact hl39 | (rw [Sls.len f24]; exact hl39))) ?_
      refine JD.loadB 3 (by kernel_rfl) rfl trivial (q_ldfa rfl hc45) ?_
      first | refine JD.calc 4 (by kernel_rfl) rfl trivial ss_subB (q_mvv (v := .slice _ _ _) rfl) ?_ | refine JD.calc 4 (by kernel_rfl) rfl trivial ss_subB (q_mv) ?_
      first | refine JD.calc 5 (by kernel_rfl) rfl trivial ss_subB (q_mvv (v := .int _ _) rfl) ?_ | refine JD.calc 5 (by kernel_rfl) rfl trivial ss_subB (q_mv) ?_
      refine JD.calc 6 (by kernel_rfl) rfl trivial ss_subB (q_ian rfl rfl hi54 (by first | exact hl55 | (rw [Sls.len f28]; exact hl55))) ?_
      refine JD.loadB 7 (by kernel_rfl) rfl trivial (q_ldfa rfl hc60) ?_
      refine JD.one 8 (by kernel_rfl) ?_
      refine JX.effB rfl rfl trivial ?_
      refine o_call (rsame_fn (IntR.at (Mo.up f51)) (IntR.at (Mo.up f66)) e71) (fun v67 h68 s69 r70 => ?_)
      obtain rfl := (show _ = _ from r70)
      refine JL.nil ⟨rfl, inferInstance, inferInstance, ?_⟩
      refine JD.calc 9 (by kernel_rfl) rfl trivial ss_subB (q_not rfl) ?_
      refine JD.done (by kernel_rfl) ?_ _
      --
      by_cases c73 : y72 = true
      ·
        replace hm := ite_T c73 hm
        refine J.condF rfl (congrArg Bool.not (show y72 = true from c73)) ?_
        refine J.skip ?_
        refine J.region ?_
        first | refine o_q (q_mvv (v := .int _ _) rfl) ?_ | refine o_q (q_mv) ?_
        refine o_q (q_add rfl rfl (wi64 k41)) ?_
        first | refine o_q (q_asv (v := .int _ _) rfl) ?_ | refine o_q (q_as) ?_
        refine JL.nil ?_
        replace hm := inl_onward hm hk36
        exact ⟨(i31 + 1), rfl, ⟨rfl, rfl, trivial⟩, ⟨rfl, trivial⟩, ⟨hm, inferInstance⟩, (muL hl39), inferInstance⟩
      ·
        replace hm := ite_F c73 hm
        refine J.condT rfl (congrArg Bool.not (show y72 = false from (eq_false_of_ne_true c73))) ?_
        refine J.seq ?_
        refine J.region ?_
        first | refine o_q (q_asv (v := .bool _) rfl) ?_ | refine o_q (q_as) ?_
        refine JL.nil ?_
        replace hm := inr_onward hm hk36
        refine J.ret ?_
        obtain rfl := Option.some.inj hm
        exact ret_ok (fn := Try.f35) rfl (.tmp rfl .nil) rfl
    ·
      replace hm := forL_nil c37 hm
      unfold M.torsionref06_SameVec_k1 at hm
      refine J.condF rfl (decide_eq_false c37) ?_
      refine J.exit ?_
      refine J.seq ?_
      refine J.region ?_
      first | refine o_q (q_asv (v := .bool _) rfl) ?_ | refine o_q (q_as) ?_
      refine JL.nil ?_
      refine J.ret ?_
      obtain rfl := Option.some.inj hm
      exact ret_ok (fn := Try.f35) rfl (.tmp rfl .nil) rfl
  ·
    replace hm := ite_F c29 hm
    refine J.condT rfl (decide_eq_true c29) ?_
    refine J.seq ?_
    refine J.region ?_
    first | refine o_q (q_asv (v := .bool _) rfl) ?_ | refine o_q (q_as) ?_
    refine JL.nil ?_
    refine J.ret ?_
    obtain rfl := Option.some.inj hm
    exact ret_ok (fn := Try.f35) rfl (.tmp rfl .nil) rfl
set_option maxHeartbeats 4000000 in
theorem torsionref06_Nonzero_fn {h : Heap} {x0 : TSparse} {v0 : Value} (r0 : AggV TSparseR h v0 x0) {r : Int} (hm : M.torsionref06_Nonzero x0 = some r) :
    Fn Try.prog 40 #[v0] h fun v h' => v = .int .i64 r := by
  obtain ⟨_, rfl, p21, n22, c23, rfl, f24⟩ := r0
  refine Fn.intro (args := [_]) Try.func40 rfl rfl (Nat.le_of_ble_eq_true rfl) fun w => ?_
  unfold M.torsionref06_Nonzero at hm
  refine J.seq ?_
  refine J.region ?_
  first | refine o_bx (v := .agg ⟨[.int _ _, .int _ _, .slice _ _ _]⟩) rfl rfl (fun b25 => ?_) | refine o_bx rfl rfl (fun b25 => ?_)
  first | refine o_q (q_asv (v := .int _ _) rfl) ?_ | refine o_q (q_as) ?_
  refine JL.nil ?_
  refine J.seq ?_
  refine J.region ?_
  first | refine o_q (q_asv (v := .int _ _) rfl) ?_ | refine o_q (q_as) ?_
  refine JL.nil ?_
  refine J.seq ?_
  refine J.seq ?_
  refine J.region ?_
  first | refine o_q (q_asv (v := .int _ _) rfl) ?_ | refine o_q (q_as) ?_
  refine JL.nil ?_
  refine J.block ?_
  obtain ⟨hl29, hm⟩ := rngL_some hm
  refine J.loopK (α := Nat × Int) (fun ⟨i28, v26⟩ h' L' => forL M.torsionref06_Nonzero_b1 M.torsionref06_Nonzero_k1 (List.drop i28 x0.L) i28 v26 = some r ∧ Sp ([(b25, row 24 [.int .i64 x0.Rows, .int .i64 x0.Cols, .slice p21 n22 c23])]) L') [(1, .pointer _)] ⟨rfl, trivial⟩ (fun ⟨i28, v26⟩ => [(3, .int .i64 v26), (4, .int .i64 (i28 : Int))]) (fun ⟨i28, v26⟩ => x0.L.length - i28) ⟨0, 0⟩ ⟨hm, inferInstance⟩ ⟨rfl, rfl, trivial⟩ ?_
  rintro ⟨i28, v26⟩ σq30 hq30 Lq30 sq30 ⟨hm, hspq30⟩
  refine J.sp hspq30 ?_
  refine J.seq ?_
  refine J.seq ?_
  refine J.region ?_
  first | refine o_q (q_mvv (v := .int _ _) rfl) ?_ | refine o_q (q_mv) ?_
  refine o_q (q_fa rfl) ?_
  refine o_q (q_ld rfl inferInstance rfl) ?_
  refine o_q (q_lenE (k := x0.L.length) rfl (Sls.len f24)) ?_
  refine o_q (q_lss rfl rfl) ?_
  refine JL.nil ?_
  by_cases c34 : (i28 : Int) < (x0.L.length : Int)
  ·
    obtain ⟨x35, o32, hl36, hx37, hm, hk33⟩ := forL_cons c34 hm
    unfold M.torsionref06_Nonzero_b1 at hm
    refine J.condT rfl (decide_eq_true c34) ?_
    have k38 : -9223372036854775808 ≤ (i28 : Int) + 1 ∧ (i28 : Int) + 1 ≤ 9223372036854775807 := by omega
    refine J.skip ?_
    refine J.seq ?_
    refine J.block ?_
    obtain ⟨b39, o40, rfl⟩ := Sls.op f24 hl36
    obtain ⟨us41, hc42, hR43⟩ := Sls.at f24 hx37
    obtain ⟨p44, n45, c46, rfl, f47⟩ := hR43
    obtain ⟨k48, hm⟩ := chk64_some hm
    refine J.region ?_
    first | refine o_q (q_mvv (v := .int _ _) rfl) ?_ | refine o_q (q_mv) ?_
    refine o_q (q_fa rfl) ?_
    refine o_q (q_ld rfl inferInstance rfl) ?_
    first | refine o_q (q_mvv (v := .int _ _) rfl) ?_ | refine o_q (q_mv) ?_
    refine o_q (q_ian rfl rfl rfl (by first | exact hl36 | (rw [Sls.len f24]; exact hl36))) ?_
    refine o_q (q_ldf rfl hc42) ?_
    refine o_q (q_lenE (k := x35.length) rfl (Sls.len f47)) ?_
    refine o_q (q_add rfl rfl (wi64 k48)) ?_
    first | refine o_q (q_asv (v := .int _ _) rfl) ?_ | refine o_q (q_as) ?_
    refine JL.nil ?_
    refine J.region ?_
    first | refine o_q (q_mvv (v := .int _ _) rfl) ?_ | refine o_q (q_mv) ?_
    refine o_q (q_add rfl rfl (wi64 k38)) ?_
    first | refine o_q (q_asv (v := .int _ _) rfl) ?_ | refine o_q (q_as) ?_
    refine JL.nil ?_
    replace hm := inl_onward hm hk33
    exact ⟨⟨i28 + 1, v26 + (x35.length : Int)⟩, rfl, ⟨rfl, trivial⟩, ⟨rfl, rfl, trivial⟩, ⟨hm, inferInstance⟩, (muL hl36), inferInstance⟩
  ·
    replace hm := forL_nil c34 hm
    unfold M.torsionref06_Nonzero_k1 at hm
    refine J.condF rfl (decide_eq_false c34) ?_
    refine J.exit ?_
    refine J.seq ?_
    refine J.region ?_
    first | refine o_q (q_mvv (v := .int _ _) rfl) ?_ | refine o_q (q_mv) ?_
    first | refine o_q (q_asv (v := .int _ _) rfl) ?_ | refine o_q (q_as) ?_
    refine JL.nil ?_
    refine J.ret ?_
    obtain rfl := Option.some.inj hm
    exact ret_ok (fn := Try.f40) rfl (.tmp rfl .nil) rfl
set_option maxHeartbeats 4000000 in
theorem torsionref06_Merge_fn {h : Heap} {x0 : List TTerm} {x1 : List TTerm} {x2 : Int} {v0 : Value} {v1 : Value} {v2 : Value} (r0 : Sls TTermR 3 h v0 x0) (r1 : Sls TTermR 3 h v1 x1) (r2 : IntAt h v2 x2) {r : (List TTerm)} (hm : M.torsionref06_Merge x0 x1 x2 = some r) :
    Fn Try.prog 18 #[v0, v1, v2] h fun v h' => Sls TTermR 3 h' v r := by
  obtain ⟨p21, n22, c23, rfl, f24⟩ := Sls.op3 r0
  obtain ⟨p25, n26, c27, rfl, f28⟩ := Sls.op3 r1
  obtain ⟨g29, p30, n31, c32, rfl, f33⟩ := IntAt.op r2
  refine Fn.intro (args := [_, _, _]) Try.func18 rfl rfl (Nat.le_of_ble_eq_true rfl) fun w => ?_
  unfold M.torsionref06_Merge at hm
  refine J.seq ?_
  refine J.region ?_
  first | refine o_bx (v := .agg ⟨[.bool _, .slice _ _ _]⟩) rfl rfl (fun b34 => ?_) | refine o_bx rfl rfl (fun b34 => ?_)
  first | refine o_q (q_asv (v := .slice _ _ _) rfl) ?_ | refine o_q (q_as) ?_
  refine JL.nil ?_
  refine J.seq ?_
  refine J.region ?_
  first | refine o_bs [] (by decide) rfl (fun b35 => ?_) | refine o_bs [] (by decide) rfl (fun b35 => ?_)
  refine JL.fact (fun h => Cells TTermR 3 h [] ([] : List TTerm)) (show Cells TTermR 3 _ [] ([] : List TTerm) from Cells.nil) (fun hc36 => ?_)
  refine JL.fact (fun h => OwnL TTermR 71 3 h (.slice (some ⟨b35, 0, none⟩) 0 0) ([] : List TTerm) [(b35, row 71 [])]) (OwnL.lit _ rfl hc36 rfl) (fun ho37 => ?_)
  first | refine o_q (q_asv (v := .slice _ _ _) rfl) ?_ | refine o_q (q_as) ?_
  refine JL.nil ?_
  refine J.seq ?_
  refine J.region ?_
  first | refine o_q (q_asv (v := .int _ _) rfl) ?_ | refine o_q (q_as) ?_
  refine JL.nil ?_
  refine J.seq ?_
  refine J.region ?_
  first | refine o_q (q_asv (v := .int _ _) rfl) ?_ | refine o_q (q_as) ?_
  refine JL.nil ?_
  refine J.seq ?_
  refine J.block ?_
  replace hm := (show iter _ fuel _ = some _ from hm)
  refine J.loopK (α := Nat × (List TTerm) × (List TTerm) × Int × Int × (Option Addr) × Nat × Nat × (Option Addr) × Nat × Nat × Own) (fun ⟨m52, v38, v43, v49, v50, p39, n40, c41, p44, n45, c46, L48⟩ h' L' => Sls TTermR 3 h' (.slice p39 n40 c41) v38 ∧ OwnL TTermR 71 3 h' (.slice p44 n45 c46) v43 L48 ∧ iter (M.torsionref06_Merge_b5 x1 x2) m52 (v38, v43, v49, v50) = some r ∧ Sp (L48 ++ ([(b34, row 37 [.bool g29, .slice p30 n31 c32])])) L') [(1, .slice _ _ _), (5, .pointer _)] ⟨rfl, rfl, trivial⟩ (fun ⟨m52, v38, v43, v49, v50, p39, n40, c41, p44, n45, c46, L48⟩ => [(0, .slice p39 n40 c41), (7, .slice p44 n45 c46), (8, .int .i64 v49), (9, .int .i64 v50)]) (fun ⟨m52, v38, v43, v49, v50, p39, n40, c41, p44, n45, c46, L48⟩ => m52) ⟨fuel, x0, ([] : List TTerm), 0, 0, p21, n22, c23, (some ⟨b35, 0, none⟩), 0, 0, [(b35, row 71 [])]⟩ ⟨(Sls.mono f24), (OwnL.mono ho37), hm, inferInstance⟩ ⟨rfl, rfl, rfl, rfl, trivial⟩ ?_
  rintro ⟨m52, v38, v43, v49, v50, p39, n40, c41, p44, n45, c46, L48⟩ σq53 hq53 Lq53 sq53 ⟨f42, f47, hm, hspq53⟩
  refine J.sp hspq53 ?_
  obtain ⟨m57, o55, rfl, hm, hk56⟩ := iter_some hm
  unfold M.torsionref06_Merge_b5 at hm
  refine J.seq ?_
  refine J.joinK (α := Unit) (fun _ h' L' => (M.torsionref06_Merge_j4 x1 x2 v38 v43 v49 v50) = some o55 ∧ Sp (L48 ++ ([(b34, row 37 [.bool g29, .slice p30 n31 c32])])) L') [(0, .slice _ _ _), (1, .slice _ _ _), (5, .pointer _), (7, .slice _ _ _), (8, .int _ _), (9, .int _ _)] ⟨rfl, rfl, rfl, rfl, rfl, rfl, trivial⟩ (fun _ => []) ?_ ?_
  ·
    refine J.seq ?_
    by_cases c542 : v49 < (v38.length : Int)
    ·
      replace hm := ite_T c542 hm
      refine J.region ?_
      first | refine o_q (q_mvv (v := .int _ _) rfl) ?_ | refine o_q (q_mv) ?_
      first | refine o_q (q_mvv (v := .slice _ _ _) rfl) ?_ | refine o_q (q_mv) ?_
      refine o_q (q_lenE (k := v38.length) rfl (Sls.len f42)) ?_
      refine o_q (q_lss rfl rfl) ?_
      first | refine o_q (q_mvv (v := .bool _) rfl) ?_ | refine o_q (q_mv) ?_
      refine JL.guardF rfl rfl (decide_eq_true c542) rfl ?_
      refine JL.guardF rfl rfl (decide_eq_true c542) rfl ?_
      refine JL.guardF rfl rfl (decide_eq_true c542) rfl ?_
      refine JL.guardF rfl rfl (decide_eq_true c542) rfl ?_
      first | refine o_q (q_pickTv (v := .bool _) rfl (decide_eq_true c542) rfl) ?_ | refine o_q (q_pickT rfl (decide_eq_true c542)) ?_
      refine JL.nil ?_
      refine J.condT rfl rfl ?_
      refine J.skip ?_
      exact ⟨(), rfl, ⟨rfl, rfl, rfl, rfl, rfl, rfl, trivial⟩, trivial, ⟨hm, inferInstance⟩, inferInstance⟩
    ·
      replace hm := ite_F c542 hm
      refine J.region ?_
      first | refine o_q (q_mvv (v := .int _ _) rfl) ?_ | refine o_q (q_mv) ?_
      first | refine o_q (q_mvv (v := .slice _ _ _) rfl) ?_ | refine o_q (q_mv) ?_
      refine o_q (q_lenE (k := v38.length) rfl (Sls.len f42)) ?_
      refine o_q (q_lss rfl rfl) ?_
      first | refine o_q (q_mvv (v := .bool _) rfl) ?_ | refine o_q (q_mv) ?_
      refine JL.guardT rfl rfl (decide_eq_false c542) ?_
      first | refine o_q (q_mvv (v := .int _ _) rfl) ?_ | refine o_q (q_mv) ?_
      refine JL.guardT rfl rfl (decide_eq_false c542) ?_
      first | refine o_q (q_mvv (v := .slice _ _ _) rfl) ?_ | refine o_q (q_mv) ?_
      refine JL.guardT rfl rfl (decide_eq_false c542) ?_
      refine o_q (q_lenE (k := x1.length) rfl (Sls.len f28)) ?_
      refine JL.guardT rfl rfl (decide_eq_false c542) ?_
      refine o_q (q_lss rfl rfl) ?_
      first | refine o_q (q_pickFv (v := .bool _) rfl (decide_eq_false c542) rfl) ?_ | refine o_q (q_pickF rfl (decide_eq_false c542)) ?_
      refine JL.nil ?_
      by_cases c543 : v50 < (x1.length : Int)
      ·
        replace hm := ite_T c543 hm
        refine J.condT rfl (decide_eq_true c543) ?_
        refine J.skip ?_
        exact ⟨(), rfl, ⟨rfl, rfl, rfl, rfl, rfl, rfl, trivial⟩, trivial, ⟨hm, inferInstance⟩, inferInstance⟩
      ·
        replace hm := ite_F c543 hm
        refine J.condF rfl (decide_eq_false c543) ?_
        refine J.exit ?_
        replace hm := inr_onward hm hk56
        refine J.seq ?_
        refine J.region ?_
        first | refine o_q (q_mvv (v := .slice _ _ _) rfl) ?_ | refine o_q (q_mv) ?_
        first | refine o_q (q_asv (v := .slice _ _ _) rfl) ?_ | refine o_q (q_as) ?_
        refine JL.nil ?_
        refine J.fzO (R := TTermR) (OwnL.mono f47) (fun h544 s545 f546 => ?_)
        refine J.ret ?_
        obtain rfl := Option.some.inj hm
        exact ret_ok (fn := Try.f18) rfl (.tmp rfl .nil) (Sls.mono f546)
  ·
    rintro _ σq59 hq59 Lq59 sq59 ⟨hm, hspq59⟩
    refine J.sp hspq59 ?_
    unfold M.torsionref06_Merge_j4 at hm
    refine J.block ?_
    refine J.seq ?_
    refine J.region ?_
    first | refine o_q (q_bd [.int _ _, .bool _, .slice _ _ _] rfl) ?_ | refine o_q (q_bd [_, _, _] rfl) ?_
    refine o_al (fun b63 => ?_)
    first | refine o_stc (vs := [.int _ _, .bool _, .slice _ _ _]) (l' := [.int _ _, .bool _, .slice _ _ _]) rfl rfl rfl rfl rfl inferInstance rfl rfl ?_ | refine o_stc (vs := [_, _, _]) (l' := [_, _, _]) rfl rfl rfl rfl rfl inferInstance rfl rfl ?_
    refine JL.nil ?_
    refine J.seq ?_
    refine J.joinK (α := Int × Int × (List TTerm) × Int × Int × Bool × (Option Addr) × Nat × Nat × (Option Addr) × Nat × Nat) (fun ⟨v65, v66, v72, v77, v78, g67, p68, n69, c70, p73, n74, c75⟩ h' L' => IntR h' [.bool g67, .slice p68 n69 c70] v66 ∧ Sls TTermR 3 h' (.slice p73 n74 c75) v72 ∧ (M.torsionref06_Merge_j1 v43) v65 v66 v72 v77 v78 = some o55 ∧ Sp (L48 ++ ([(b34, row 37 [.bool g29, .slice p30 n31 c32]), (b63, row 71 [.int .i64 v65, .bool g67, .slice p68 n69 c70])])) L') [(1, .slice _ _ _), (5, .pointer _), (7, .slice _ _ _), (10, .pointer _)] ⟨rfl, rfl, rfl, rfl, trivial⟩ (fun ⟨v65, v66, v72, v77, v78, g67, p68, n69, c70, p73, n74, c75⟩ => [(0, .slice p73 n74 c75), (8, .int .i64 v77), (9, .int .i64 v78)]) ?_ ?_
    ·
      refine J.block ?_
      refine J.seq ?_
      refine J.joinK (α := Bool) (fun v312 h' L' => (M.torsionref06_Merge_j3 x1 x2 v38 v43 v49 v50) v312 = some o55 ∧ Sp (L48 ++ ([(b34, row 37 [.bool g29, .slice p30 n31 c32]), (b63, row 71 [.int .i64 0, .bool false, .slice none 0 0])])) L') [(0, .slice _ _ _), (1, .slice _ _ _), (5, .pointer _), (7, .slice _ _ _), (8, .int _ _), (9, .int _ _), (10, .pointer _)] ⟨rfl, rfl, rfl, rfl, rfl, rfl, rfl, trivial⟩ (fun v312 => [(46, .bool v312)]) ?_ ?_
      ·
        by_cases c510 : v50 = (x1.length : Int)
        ·
          replace hm := ite_T c510 hm
          refine J.drawB [] [] ?_
          first | refine JD.calc 0 (by kernel_rfl) rfl trivial ss_subB (q_mvv (v := .int _ _) rfl) ?_ | refine JD.calc 0 (by kernel_rfl) rfl trivial ss_subB (q_mv) ?_
          first | refine JD.calc 1 (by kernel_rfl) rfl trivial ss_subB (q_mvv (v := .slice _ _ _) rfl) ?_ | refine JD.calc 1 (by kernel_rfl) rfl trivial ss_subB (q_mv) ?_
          refine JD.calc 2 (by kernel_rfl) rfl trivial ss_subB (q_lenE (k := x1.length) rfl (Sls.len f28)) ?_
          refine JD.calc 3 (by kernel_rfl) rfl trivial ss_subB (q_eql rfl rfl) ?_
          first | refine JD.calc 4 (by kernel_rfl) rfl trivial ss_subB (q_mvv (v := .bool _) rfl) ?_ | refine JD.calc 4 (by kernel_rfl) rfl trivial ss_subB (q_mv) ?_
          refine JD.pass 5 (by kernel_rfl) rfl rfl (congrArg Value.bool (decide_eq_true c510)) ss_subB ?_
          refine JD.pass 6 (by kernel_rfl) rfl rfl (congrArg Value.bool (decide_eq_true c510)) ss_subB ?_
          refine JD.pass 7 (by kernel_rfl) rfl rfl (congrArg Value.bool (decide_eq_true c510)) ss_subB ?_
          refine JD.pass 8 (by kernel_rfl) rfl rfl (congrArg Value.bool (decide_eq_true c510)) ss_subB ?_
          refine JD.pass 9 (by kernel_rfl) rfl rfl (congrArg Value.bool (decide_eq_true c510)) ss_subB ?_
          refine JD.passU 10 (by kernel_rfl) rfl rfl rfl ss_subB ?_
          refine JD.passU 11 (by kernel_rfl) rfl rfl rfl ss_subB ?_
          refine JD.passU 12 (by kernel_rfl) rfl rfl rfl ss_subB ?_
          refine JD.passU 13 (by kernel_rfl) rfl rfl rfl ss_subB ?_
          refine JD.passU 14 (by kernel_rfl) rfl rfl rfl ss_subB ?_
          refine JD.passU 15 (by kernel_rfl) rfl rfl rfl ss_subB ?_
          refine JD.passU 16 (by kernel_rfl) rfl rfl rfl ss_subB ?_
          refine JD.passU 17 (by kernel_rfl) rfl rfl rfl ss_subB ?_
          refine JD.passU 18 (by kernel_rfl) rfl rfl rfl ss_subB ?_
          refine JD.passU 19 (by kernel_rfl) rfl rfl rfl ss_subB ?_
          refine JD.passU 20 (by kernel_rfl) rfl rfl rfl ss_subB ?_
          refine JD.pass 21 (by kernel_rfl) rfl rfl (congrArg Value.bool (decide_eq_true c510)) ss_subB ?_
          first | refine JD.calc 22 (by kernel_rfl) rfl trivial ss_subB (q_pickTv (v := .bool _) rfl (decide_eq_true c510) rfl) ?_ | refine JD.calc 22 (by kernel_rfl) rfl trivial ss_subB (q_pickT rfl (decide_eq_true c510)) ?_
          first | refine JD.calc 23 (by kernel_rfl) rfl trivial ss_subB (q_asv (v := .bool _) rfl) ?_ | refine JD.calc 23 (by kernel_rfl) rfl trivial ss_subB (q_as) ?_
          refine JD.done (by kernel_rfl) ?_ _
          --
          exact ⟨true, rfl, ⟨rfl, rfl, rfl, rfl, rfl, rfl, rfl, trivial⟩, ⟨rfl, trivial⟩, ⟨hm, inferInstance⟩, inferInstance⟩
        ·
          replace hm := ite_F c510 hm
          by_cases c511 : v49 < (v38.length : Int)
          ·
            replace hm := ite_T c511 hm
            obtain ⟨i513, x512, hi514, hl515, hx516, hm⟩ := nth_some hm
            obtain ⟨b517, o518, rfl⟩ := Sls.op f42 hl515
            obtain ⟨us519, hc520, hR521⟩ := Sls.at f42 hx516
            obtain ⟨g522, p523, n524, c525, rfl, f526⟩ := hR521
            obtain ⟨i528, x527, hi529, hl530, hx531, hm⟩ := nth_some hm
            obtain ⟨b532, o533, rfl⟩ := Sls.op f28 hl530
            obtain ⟨us534, hc535, hR536⟩ := Sls.at f28 hx531
            obtain ⟨g537, p538, n539, c540, rfl, f541⟩ := hR536
            refine J.drawB [] [] ?_
            first | refine JD.calc 0 (by kernel_rfl) rfl trivial ss_subB (q_mvv (v := .int _ _) rfl) ?_ | refine JD.calc 0 (by kernel_rfl) rfl trivial ss_subB (q_mv) ?_
            first | refine JD.calc 1 (by kernel_rfl) rfl trivial ss_subB (q_mvv (v := .slice _ _ _) rfl) ?_ | refine JD.calc 1 (by kernel_rfl) rfl trivial ss_subB (q_mv) ?_
            refine JD.calc 2 (by kernel_rfl) rfl trivial ss_subB (q_lenE (k := x1.length) rfl (Sls.len f28)) ?_
            refine JD.calc 3 (by kernel_rfl) rfl trivial ss_subB (q_eql rfl rfl) ?_
            first | refine JD.calc 4 (by kernel_rfl) rfl trivial ss_subB (q_mvv (v := .bool _) rfl) ?_ | refine JD.calc 4 (by kernel_rfl) rfl trivial ss_subB (q_mv) ?_
            first | refine JD.calc 5 (by kernel_rfl) rfl ⟨_, rfl, (congrArg Value.bool (decide_eq_false c510))⟩ ss_subB (q_mvv (v := .int _ _) rfl) ?_ | refine JD.calc 5 (by kernel_rfl) rfl ⟨_, rfl, (congrArg Value.bool (decide_eq_false c510))⟩ ss_subB (q_mv) ?_
            first | refine JD.calc 6 (by kernel_rfl) rfl ⟨_, rfl, (congrArg Value.bool (decide_eq_false c510))⟩ ss_subB (q_mvv (v := .slice _ _ _) rfl) ?_ | refine JD.calc 6 (by kernel_rfl) rfl ⟨_, rfl, (congrArg Value.bool (decide_eq_false c510))⟩ ss_subB (q_mv) ?_
            refine JD.calc 7 (by kernel_rfl) rfl ⟨_, rfl, (congrArg Value.bool (decide_eq_false c510))⟩ ss_subB (q_lenE (k := v38.length) rfl (Sls.len f42)) ?_
            refine JD.calc 8 (by kernel_rfl) rfl ⟨_, rfl, (congrArg Value.bool (decide_eq_false c510))⟩ ss_subB (q_lss rfl rfl) ?_
            first | refine JD.calc 9 (by kernel_rfl) rfl ⟨_, rfl, (congrArg Value.bool (decide_eq_false c510))⟩ ss_subB (q_mvv (v := .bool _) rfl) ?_ | refine JD.calc 9 (by kernel_rfl) rfl ⟨_, rfl, (congrArg Value.bool (decide_eq_false c510))⟩ ss_subB (q_mv) ?_
            first | refine JD.calc 10 (by kernel_rfl) rfl ⟨_, rfl, (congrArg Value.bool (decide_eq_true c511))⟩ ss_subB (q_mvv (v := .slice _ _ _) rfl) ?_ | refine JD.calc 10 (by kernel_rfl) rfl ⟨_, rfl, (congrArg Value.bool (decide_eq_true c511))⟩ ss_subB (q_mv) ?_
            first | refine JD.calc 11 (by kernel_rfl) rfl ⟨_, rfl, (congrArg Value.bool (decide_eq_true c511))⟩ ss_subB (q_mvv (v := .int _ _) rfl) ?_ | refine JD.calc 11 (by kernel_rfl) rfl ⟨_, rfl, (congrArg Value.bool (decide_eq_true c511))⟩ ss_subB (q_mv) ?_
            refine JD.calc 12 (by kernel_rfl) rfl ⟨_, rfl, (congrArg Value.bool (decide_eq_true c511))⟩ ss_subB (q_ian rfl rfl hi514 (by first | exact hl515 | (rw [Sls.len f42]; exact hl515))) ?_
            refine JD.calc 13 (by kernel_rfl) rfl ⟨_, rfl, (congrArg Value.bool (decide_eq_true c511))⟩ ss_subB (q_fa rfl) ?_
            refine JD.loadB 14 (by kernel_rfl) rfl ⟨_, rfl, (congrArg Value.bool (decide_eq_true c511))⟩ (q_ldf rfl (hc520.cell (j := 0) rfl)) ?_
            first | refine JD.calc 15 (by kernel_rfl) rfl ⟨_, rfl, (congrArg Value.bool (decide_eq_true c511))⟩ ss_subB (q_mvv (v := .slice _ _ _) rfl) ?_ | refine JD.calc 15 (by kernel_rfl) rfl ⟨_, rfl, (congrArg Value.bool (decide_eq_true c511))⟩ ss_subB (q_mv) ?_
            first | refine JD.calc 16 (by kernel_rfl) rfl ⟨_, rfl, (congrArg Value.bool (decide_eq_true c511))⟩ ss_subB (q_mvv (v := .int _ _) rfl) ?_ | refine JD.calc 16 (by kernel_rfl) rfl ⟨_, rfl, (congrArg Value.bool (decide_eq_true c511))⟩ ss_subB (q_mv) ?_
            refine JD.calc 17 (by kernel_rfl) rfl ⟨_, rfl, (congrArg Value.bool (decide_eq_true c511))⟩ ss_subB (q_ian rfl rfl hi529 (by first | exact hl530 | (rw [Sls.len f28]; exact hl530))) ?_
            refine JD.calc 18 (by kernel_rfl) rfl ⟨_, rfl, (congrArg Value.bool (decide_eq_true c511))⟩ ss_subB (q_fa rfl) ?_
            refine JD.loadB 19 (by kernel_rfl) rfl ⟨_, rfl, (congrArg Value.bool (decide_eq_true c511))⟩ (q_ldf rfl (hc535.cell (j := 0) rfl)) ?_
            refine JD.calc 20 (by kernel_rfl) rfl ⟨_, rfl, (congrArg Value.bool (decide_eq_true c511))⟩ ss_subB (q_lss rfl rfl) ?_
            first | refine JD.calc 21 (by kernel_rfl) rfl ⟨_, rfl, (congrArg Value.bool (decide_eq_false c510))⟩ ss_subB (q_pickTv (v := .bool _) rfl (decide_eq_true c511) rfl) ?_ | refine JD.calc 21 (by kernel_rfl) rfl ⟨_, rfl, (congrArg Value.bool (decide_eq_false c510))⟩ ss_subB (q_pickT rfl (decide_eq_true c511)) ?_
            first | refine JD.calc 22 (by kernel_rfl) rfl trivial ss_subB (q_pickFv (v := .bool _) rfl (decide_eq_false c510) rfl) ?_ | refine JD.calc 22 (by kernel_rfl) rfl trivial ss_subB (q_pickF rfl (decide_eq_false c510)) ?_
            first | refine JD.calc 23 (by kernel_rfl) rfl trivial ss_subB (q_asv (v := .bool _) rfl) ?_ | refine JD.calc 23 (by kernel_rfl) rfl trivial ss_subB (q_as) ?_
            refine JD.done (by kernel_rfl) ?_ _
            --
            exact ⟨(decide (x512.Col < x527.Col)), rfl, ⟨rfl, rfl, rfl, rfl, rfl, rfl, rfl, trivial⟩, ⟨rfl, trivial⟩, ⟨hm, inferInstance⟩, inferInstance⟩
          ·
            replace hm := ite_F c511 hm
            refine J.drawB [] [] ?_
            first | refine JD.calc 0 (by kernel_rfl) rfl trivial ss_subB (q_mvv (v := .int _ _) rfl) ?_ | refine JD.calc 0 (by kernel_rfl) rfl trivial ss_subB (q_mv) ?_
            first | refine JD.calc 1 (by kernel_rfl) rfl trivial ss_subB (q_mvv (v := .slice _ _ _) rfl) ?_ | refine JD.calc 1 (by kernel_rfl) rfl trivial ss_subB (q_mv) ?_
            refine JD.calc 2 (by kernel_rfl) rfl trivial ss_subB (q_lenE (k := x1.length) rfl (Sls.len f28)) ?_
            refine JD.calc 3 (by kernel_rfl) rfl trivial ss_subB (q_eql rfl rfl) ?_
            first | refine JD.calc 4 (by kernel_rfl) rfl trivial ss_subB (q_mvv (v := .bool _) rfl) ?_ | refine JD.calc 4 (by kernel_rfl) rfl trivial ss_subB (q_mv) ?_
            first | refine JD.calc 5 (by kernel_rfl) rfl ⟨_, rfl, (congrArg Value.bool (decide_eq_false c510))⟩ ss_subB (q_mvv (v := .int _ _) rfl) ?_ | refine JD.calc 5 (by kernel_rfl) rfl ⟨_, rfl, (congrArg Value.bool (decide_eq_false c510))⟩ ss_subB (q_mv) ?_
            first | refine JD.calc 6 (by kernel_rfl) rfl ⟨_, rfl, (congrArg Value.bool (decide_eq_false c510))⟩ ss_subB (q_mvv (v := .slice _ _ _) rfl) ?_ | refine JD.calc 6 (by kernel_rfl) rfl ⟨_, rfl, (congrArg Value.bool (decide_eq_false c510))⟩ ss_subB (q_mv) ?_
            refine JD.calc 7 (by kernel_rfl) rfl ⟨_, rfl, (congrArg Value.bool (decide_eq_false c510))⟩ ss_subB (q_lenE (k := v38.length) rfl (Sls.len f42)) ?_
            refine JD.calc 8 (by kernel_rfl) rfl ⟨_, rfl, (congrArg Value.bool (decide_eq_false c510))⟩ ss_subB (q_lss rfl rfl) ?_
            first | refine JD.calc 9 (by kernel_rfl) rfl ⟨_, rfl, (congrArg Value.bool (decide_eq_false c510))⟩ ss_subB (q_mvv (v := .bool _) rfl) ?_ | refine JD.calc 9 (by kernel_rfl) rfl ⟨_, rfl, (congrArg Value.bool (decide_eq_false c510))⟩ ss_subB (q_mv) ?_
            refine JD.pass 10 (by kernel_rfl) rfl rfl (congrArg Value.bool (decide_eq_false c511)) ss_subB ?_
            refine JD.pass 11 (by kernel_rfl) rfl rfl (congrArg Value.bool (decide_eq_false c511)) ss_subB ?_
            refine JD.pass 12 (by kernel_rfl) rfl rfl (congrArg Value.bool (decide_eq_false c511)) ss_subB ?_
            refine JD.pass 13 (by kernel_rfl) rfl rfl (congrArg Value.bool (decide_eq_false c511)) ss_subB ?_
            refine JD.pass 14 (by kernel_rfl) rfl rfl (congrArg Value.bool (decide_eq_false c511)) ss_subB ?_
            refine JD.pass 15 (by kernel_rfl) rfl rfl (congrArg Value.bool (decide_eq_false c511)) ss_subB ?_
            refine JD.pass 16 (by kernel_rfl) rfl rfl (congrArg Value.bool (decide_eq_false c511)) ss_subB ?_
            refine JD.pass 17 (by kernel_rfl) rfl rfl (congrArg Value.bool (decide_eq_false c511)) ss_subB ?_
            refine JD.pass 18 (by kernel_rfl) rfl rfl (congrArg Value.bool (decide_eq_false c511)) ss_subB ?_
            refine JD.pass 19 (by kernel_rfl) rfl rfl (congrArg Value.bool (decide_eq_false c511)) ss_subB ?_
            refine JD.pass 20 (by kernel_rfl) rfl rfl (congrArg Value.bool (decide_eq_false c511)) ss_subB ?_
            first | refine JD.calc 21 (by kernel_rfl) rfl ⟨_, rfl, (congrArg Value.bool (decide_eq_false c510))⟩ ss_subB (q_pickFv (v := .bool _) rfl (decide_eq_false c511) rfl) ?_ | refine JD.calc 21 (by kernel_rfl) rfl ⟨_, rfl, (congrArg Value.bool (decide_eq_false c510))⟩ ss_subB (q_pickF rfl (decide_eq_false c511)) ?_
            first | refine JD.calc 22 (by kernel_rfl) rfl trivial ss_subB (q_pickFv (v := .bool _) rfl (decide_eq_false c510) rfl) ?_ | refine JD.calc 22 (by kernel_rfl) rfl trivial ss_subB (q_pickF rfl (decide_eq_false c510)) ?_
            first | refine JD.calc 23 (by kernel_rfl) rfl trivial ss_subB (q_asv (v := .bool _) rfl) ?_ | refine JD.calc 23 (by kernel_rfl) rfl trivial ss_subB (q_as) ?_
            refine JD.done (by kernel_rfl) ?_ _
            --
            exact ⟨false, rfl, ⟨rfl, rfl, rfl, rfl, rfl, rfl, rfl, trivial⟩, ⟨rfl, trivial⟩, ⟨hm, inferInstance⟩, inferInstance⟩
      ·
        rintro v312 σq313 hq313 Lq313 sq313 ⟨hm, hspq313⟩
        refine J.sp hspq313 ?_
        unfold M.torsionref06_Merge_j3 at hm
        by_cases c343 : v312 = true
        ·
          replace hm := ite_T c343 hm
          refine J.condT rfl c343 ?_
          refine J.seq ?_
          obtain ⟨i345, x344, hi346, hl347, hx348, hm⟩ := nth_some hm
          obtain ⟨b349, o350, rfl⟩ := Sls.op f42 hl347
          obtain ⟨us351, hc352, hR353⟩ := Sls.at f42 hx348
          obtain ⟨g354, p355, n356, c357, rfl, f358⟩ := hR353
          refine J.region ?_
          first | refine o_q (q_mvv (v := .slice _ _ _) rfl) ?_ | refine o_q (q_mv) ?_
          first | refine o_q (q_mvv (v := .int _ _) rfl) ?_ | refine o_q (q_mv) ?_
          refine o_q (q_ian rfl rfl hi346 (by first | exact hl347 | (rw [Sls.len f42]; exact hl347))) ?_
          refine o_q (q_ldfa rfl hc352) ?_
          first | refine o_stc (vs := [.int _ _, .bool _, .slice _ _ _]) (l' := [.int _ _, .bool _, .slice _ _ _]) rfl rfl rfl rfl rfl inferInstance rfl rfl ?_ | refine o_stc (vs := [_, _, _]) (l' := [_, _, _]) rfl rfl rfl rfl rfl inferInstance rfl rfl ?_
          refine JL.nil ?_
          obtain ⟨k359, hm⟩ := chk64_some hm
          refine J.region ?_
          first | refine o_q (q_mvv (v := .int _ _) rfl) ?_ | refine o_q (q_mv) ?_
          refine o_q (q_add rfl rfl (wi64 k359)) ?_
          first | refine o_q (q_asv (v := .int _ _) rfl) ?_ | refine o_q (q_as) ?_
          refine JL.nil ?_
          exact ⟨⟨x344.Col, x344.V, v38, v49 + 1, v50, g354, p355, n356, c357, (some ⟨b349, o350, none⟩), n40, c41⟩, rfl, ⟨rfl, rfl, rfl, rfl, trivial⟩, ⟨rfl, rfl, rfl, trivial⟩, ⟨(Mo.up f358), (Sls.mono f42), hm, inferInstance⟩, inferInstance⟩
        ·
          replace hm := ite_F c343 hm
          refine J.condF rfl (eq_false_of_ne_true c343) ?_
          refine J.seq ?_
          refine J.joinK (α := Bool) (fun v361 h' L' => (M.torsionref06_Merge_j2 x1 x2 v38 v43 v49 v50) v361 = some o55 ∧ Sp (L48 ++ ([(b34, row 37 [.bool g29, .slice p30 n31 c32]), (b63, row 71 [.int .i64 0, .bool false, .slice none 0 0])])) L') [(0, .slice _ _ _), (1, .slice _ _ _), (5, .pointer _), (7, .slice _ _ _), (8, .int _ _), (9, .int _ _), (10, .pointer _)] ⟨rfl, rfl, rfl, rfl, rfl, rfl, rfl, trivial⟩ (fun v361 => [(76, .bool v361)]) ?_ ?_
          ·
            by_cases c479 : v49 = (v38.length : Int)
            ·
              replace hm := ite_T c479 hm
              refine J.drawB [] [] ?_
              first | refine JD.calc 0 (by kernel_rfl) rfl trivial ss_subB (q_mvv (v := .int _ _) rfl) ?_ | refine JD.calc 0 (by kernel_rfl) rfl trivial ss_subB (q_mv) ?_
              first | refine JD.calc 1 (by kernel_rfl) rfl trivial ss_subB (q_mvv (v := .slice _ _ _) rfl) ?_ | refine JD.calc 1 (by kernel_rfl) rfl trivial ss_subB (q_mv) ?_
              refine JD.calc 2 (by kernel_rfl) rfl trivial ss_subB (q_lenE (k := v38.length) rfl (Sls.len f42)) ?_
              refine JD.calc 3 (by kernel_rfl) rfl trivial ss_subB (q_eql rfl rfl) ?_
              first | refine JD.calc 4 (by kernel_rfl) rfl trivial ss_subB (q_mvv (v := .bool _) rfl) ?_ | refine JD.calc 4 (by kernel_rfl) rfl trivial ss_subB (q_mv) ?_
              refine JD.pass 5 (by kernel_rfl) rfl rfl (congrArg Value.bool (decide_eq_true c479)) ss_subB ?_
              refine JD.pass 6 (by kernel_rfl) rfl rfl (congrArg Value.bool (decide_eq_true c479)) ss_subB ?_
              refine JD.pass 7 (by kernel_rfl) rfl rfl (congrArg Value.bool (decide_eq_true c479)) ss_subB ?_
              refine JD.pass 8 (by kernel_rfl) rfl rfl (congrArg Value.bool (decide_eq_true c479)) ss_subB ?_
              refine JD.pass 9 (by kernel_rfl) rfl rfl (congrArg Value.bool (decide_eq_true c479)) ss_subB ?_
              refine JD.pass 10 (by kernel_rfl) rfl rfl (congrArg Value.bool (decide_eq_true c479)) ss_subB ?_
              refine JD.pass 11 (by kernel_rfl) rfl rfl (congrArg Value.bool (decide_eq_true c479)) ss_subB ?_
              refine JD.pass 12 (by kernel_rfl) rfl rfl (congrArg Value.bool (decide_eq_true c479)) ss_subB ?_
              refine JD.pass 13 (by kernel_rfl) rfl rfl (congrArg Value.bool (decide_eq_true c479)) ss_subB ?_
              refine JD.pass 14 (by kernel_rfl) rfl rfl (congrArg Value.bool (decide_eq_true c479)) ss_subB ?_
              refine JD.pass 15 (by kernel_rfl) rfl rfl (congrArg Value.bool (decide_eq_true c479)) ss_subB ?_
              first | refine JD.calc 16 (by kernel_rfl) rfl trivial ss_subB (q_pickTv (v := .bool _) rfl (decide_eq_true c479) rfl) ?_ | refine JD.calc 16 (by kernel_rfl) rfl trivial ss_subB (q_pickT rfl (decide_eq_true c479)) ?_
              first | refine JD.calc 17 (by kernel_rfl) rfl trivial ss_subB (q_asv (v := .bool _) rfl) ?_ | refine JD.calc 17 (by kernel_rfl) rfl trivial ss_subB (q_as) ?_
              refine JD.done (by kernel_rfl) ?_ _
              --
              exact ⟨true, rfl, ⟨rfl, rfl, rfl, rfl, rfl, rfl, rfl, trivial⟩, ⟨rfl, trivial⟩, ⟨hm, inferInstance⟩, inferInstance⟩
            ·
              replace hm := ite_F c479 hm
              obtain ⟨i481, x480, hi482, hl483, hx484, hm⟩ := nth_some hm
              obtain ⟨b485, o486, rfl⟩ := Sls.op f28 hl483
              obtain ⟨us487, hc488, hR489⟩ := Sls.at f28 hx484
              obtain ⟨g490, p491, n492, c493, rfl, f494⟩ := hR489
              obtain ⟨i496, x495, hi497, hl498, hx499, hm⟩ := nth_some hm
              obtain ⟨b500, o501, rfl⟩ := Sls.op f42 hl498
              obtain ⟨us502, hc503, hR504⟩ := Sls.at f42 hx499
              obtain ⟨g505, p506, n507, c508, rfl, f509⟩ := hR504
              refine J.drawB [] [] ?_
              first | refine JD.calc 0 (by kernel_rfl) rfl trivial ss_subB (q_mvv (v := .int _ _) rfl) ?_ | refine JD.calc 0 (by kernel_rfl) rfl trivial ss_subB (q_mv) ?_
              first | refine JD.calc 1 (by kernel_rfl) rfl trivial ss_subB (q_mvv (v := .slice _ _ _) rfl) ?_ | refine JD.calc 1 (by kernel_rfl) rfl trivial ss_subB (q_mv) ?_
              refine JD.calc 2 (by kernel_rfl) rfl trivial ss_subB (q_lenE (k := v38.length) rfl (Sls.len f42)) ?_
              refine JD.calc 3 (by kernel_rfl) rfl trivial ss_subB (q_eql rfl rfl) ?_
              first | refine JD.calc 4 (by kernel_rfl) rfl trivial ss_subB (q_mvv (v := .bool _) rfl) ?_ | refine JD.calc 4 (by kernel_rfl) rfl trivial ss_subB (q_mv) ?_
              first | refine JD.calc 5 (by kernel_rfl) rfl ⟨_, rfl, (congrArg Value.bool (decide_eq_false c479))⟩ ss_subB (q_mvv (v := .slice _ _ _) rfl) ?_ | refine JD.calc 5 (by kernel_rfl) rfl ⟨_, rfl, (congrArg Value.bool (decide_eq_false c479))⟩ ss_subB (q_mv) ?_
              first | refine JD.calc 6 (by kernel_rfl) rfl ⟨_, rfl, (congrArg Value.bool (decide_eq_false c479))⟩ ss_subB (q_mvv (v := .int _ _) rfl) ?_ | refine JD.calc 6 (by kernel_rfl) rfl ⟨_, rfl, (congrArg Value.bool (decide_eq_false c479))⟩ ss_subB (q_mv) ?_
              refine JD.calc 7 (by kernel_rfl) rfl ⟨_, rfl, (congrArg Value.bool (decide_eq_false c479))⟩ ss_subB (q_ian rfl rfl hi482 (by first | exact hl483 | (rw [Sls.len f28]; exact hl483))) ?_
              refine JD.calc 8 (by kernel_rfl) rfl ⟨_, rfl, (congrArg Value.bool (decide_eq_false c479))⟩ ss_subB (q_fa rfl) ?_
              refine JD.loadB 9 (by kernel_rfl) rfl ⟨_, rfl, (congrArg Value.bool (decide_eq_false c479))⟩ (q_ldf rfl (hc488.cell (j := 0) rfl)) ?_
              first | refine JD.calc 10 (by kernel_rfl) rfl ⟨_, rfl, (congrArg Value.bool (decide_eq_false c479))⟩ ss_subB (q_mvv (v := .slice _ _ _) rfl) ?_ | refine JD.calc 10 (by kernel_rfl) rfl ⟨_, rfl, (congrArg Value.bool (decide_eq_false c479))⟩ ss_subB (q_mv) ?_
              first | refine JD.calc 11 (by kernel_rfl) rfl ⟨_, rfl, (congrArg Value.bool (decide_eq_false c479))⟩ ss_subB (q_mvv (v := .int _ _) rfl) ?_ | refine JD.calc 11 (by kernel_rfl) rfl ⟨_, rfl, (congrArg Value.bool (decide_eq_false c479))⟩ ss_subB (q_mv) ?_
              refine JD.calc 12 (by kernel_rfl) rfl ⟨_, rfl, (congrArg Value.bool (decide_eq_false c479))⟩ ss_subB (q_ian rfl rfl hi497 (by first | exact hl498 | (rw [Sls.len f42]; exact hl498))) ?_
              refine JD.calc 13 (by kernel_rfl) rfl ⟨_, rfl, (congrArg Value.bool (decide_eq_false c479))⟩ ss_subB (q_fa rfl) ?_
              refine JD.loadB 14 (by kernel_rfl) rfl ⟨_, rfl, (congrArg Value.bool (decide_eq_false c479))⟩ (q_ldf rfl (hc503.cell (j := 0) rfl)) ?_
              refine JD.calc 15 (by kernel_rfl) rfl ⟨_, rfl, (congrArg Value.bool (decide_eq_false c479))⟩ ss_subB (q_lss rfl rfl) ?_
              first | refine JD.calc 16 (by kernel_rfl) rfl trivial ss_subB (q_pickFv (v := .bool _) rfl (decide_eq_false c479) rfl) ?_ | refine JD.calc 16 (by kernel_rfl) rfl trivial ss_subB (q_pickF rfl (decide_eq_false c479)) ?_
              first | refine JD.calc 17 (by kernel_rfl) rfl trivial ss_subB (q_asv (v := .bool _) rfl) ?_ | refine JD.calc 17 (by kernel_rfl) rfl trivial ss_subB (q_as) ?_
              refine JD.done (by kernel_rfl) ?_ _
              --
              exact ⟨(decide (x480.Col < x495.Col)), rfl, ⟨rfl, rfl, rfl, rfl, rfl, rfl, rfl, trivial⟩, ⟨rfl, trivial⟩, ⟨hm, inferInstance⟩, inferInstance⟩
          ·
            rintro v361 σq362 hq362 Lq362 sq362 ⟨hm, hspq362⟩
            refine J.sp hspq362 ?_
            unfold M.torsionref06_Merge_j2 at hm
            by_cases c391 : v361 = true
            ·
              replace hm := ite_T c391 hm
              refine J.condT rfl c391 ?_
              refine J.seq ?_
              obtain ⟨i393, x392, hi394, hl395, hx396, hm⟩ := nth_some hm
              obtain ⟨b397, o398, rfl⟩ := Sls.op f28 hl395
              obtain ⟨us399, hc400, hR401⟩ := Sls.at f28 hx396
              obtain ⟨g402, p403, n404, c405, rfl, f406⟩ := hR401
              obtain ⟨y415, e414, hm⟩ := bnd_some hm
              refine J.drawB [b34] [] ?_
              first | refine JD.calc 0 (by kernel_rfl) rfl trivial ss_subB (q_mvv (v := .slice _ _ _) rfl) ?_ | refine JD.calc 0 (by kernel_rfl) rfl trivial ss_subB (q_mv) ?_
              first | refine JD.calc 1 (by kernel_rfl) rfl trivial ss_subB (q_mvv (v := .int _ _) rfl) ?_ | refine JD.calc 1 (by kernel_rfl) rfl trivial ss_subB (q_mv) ?_
              refine JD.calc 2 (by kernel_rfl) rfl trivial ss_subB (q_ian rfl rfl hi394 (by first | exact hl395 | (rw [Sls.len f28]; exact hl395))) ?_
              refine JD.calc 3 (by kernel_rfl) rfl trivial ss_subB (q_fa rfl) ?_
              refine JD.loadB 4 (by kernel_rfl) rfl trivial (q_ldf rfl (hc400.cell (j := 0) rfl)) ?_
              refine JD.loadB 5 (by kernel_rfl) rfl trivial (q_lda (vs := [_, _]) rfl inferInstance ⟨rfl, rfl, trivial⟩) ?_
              first | refine JD.calc 6 (by kernel_rfl) rfl trivial ss_subB (q_mvv (v := .slice _ _ _) rfl) ?_ | refine JD.calc 6 (by kernel_rfl) rfl trivial ss_subB (q_mv) ?_
              first | refine JD.calc 7 (by kernel_rfl) rfl trivial ss_subB (q_mvv (v := .int _ _) rfl) ?_ | refine JD.calc 7 (by kernel_rfl) rfl trivial ss_subB (q_mv) ?_
              refine JD.calc 8 (by kernel_rfl) rfl trivial ss_subB (q_ian rfl rfl hi394 (by first | exact hl395 | (rw [Sls.len f28]; exact hl395))) ?_
              refine JD.calc 9 (by kernel_rfl) rfl trivial ss_subB (q_fa rfl) ?_
              refine JD.loadB 10 (by kernel_rfl) rfl trivial (q_ldfs (vs := [_, _]) rfl hc400 rfl) ?_
              refine JD.one 11 (by kernel_rfl) ?_
              refine JX.effB rfl rfl trivial ?_
              refine o_call (rmul_fn (IntR.at (Mo.up f33)) (IntR.at (Mo.up f406)) e414) (fun v410 h411 s412 r413 => ?_)
              obtain ⟨g416, p417, n418, c419, rfl, f420⟩ := IntAt.op r413
              refine JL.nil ⟨rfl, inferInstance, inferInstance, ?_⟩
              first | refine JD.calc 12 (by kernel_rfl) rfl trivial ss_subB (q_bd [.int _ _, .bool _, .slice _ _ _] rfl) ?_ | refine JD.calc 12 (by kernel_rfl) rfl trivial ss_subB (q_bd [_, _, _] rfl) ?_
              refine JD.one 13 (by kernel_rfl) ?_
              refine JX.effB rfl rfl trivial ?_
              first | refine o_stc (vs := [.int _ _, .bool _, .slice _ _ _]) (l' := [.int _ _, .bool _, .slice _ _ _]) rfl rfl rfl rfl rfl inferInstance rfl rfl ?_ | refine o_stc (vs := [_, _, _]) (l' := [_, _, _]) rfl rfl rfl rfl rfl inferInstance rfl rfl ?_
              refine JL.nil ⟨rfl, inferInstance, inferInstance, ?_⟩
              refine JD.done (by kernel_rfl) ?_ _
              --
              obtain ⟨k421, hm⟩ := chk64_some hm
              refine J.region ?_
              first | refine o_q (q_mvv (v := .int _ _) rfl) ?_ | refine o_q (q_mv) ?_
              refine o_q (q_add rfl rfl (wi64 k421)) ?_
              first | refine o_q (q_asv (v := .int _ _) rfl) ?_ | refine o_q (q_as) ?_
              refine JL.nil ?_
              exact ⟨⟨x392.Col, y415, v38, v49, v50 + 1, g416, p417, n418, c419, p39, n40, c41⟩, rfl, ⟨rfl, rfl, rfl, rfl, trivial⟩, ⟨rfl, rfl, rfl, trivial⟩, ⟨(Mo.up f420), (Sls.mono f42), hm, inferInstance⟩, inferInstance⟩
            ·
              replace hm := ite_F c391 hm
              refine J.condF rfl (eq_false_of_ne_true c391) ?_
              refine J.seq ?_
              obtain ⟨i423, x422, hi424, hl425, hx426, hm⟩ := nth_some hm
              obtain ⟨b427, o428, rfl⟩ := Sls.op f42 hl425
              obtain ⟨us429, hc430, hR431⟩ := Sls.at f42 hx426
              obtain ⟨g432, p433, n434, c435, rfl, f436⟩ := hR431
              obtain ⟨i441, x440, hi442, hl443, hx444, hm⟩ := nth_some hm
              obtain ⟨b445, o446, rfl⟩ := Sls.op f28 hl443
              obtain ⟨us447, hc448, hR449⟩ := Sls.at f28 hx444
              obtain ⟨g450, p451, n452, c453, rfl, f454⟩ := hR449
              obtain ⟨y460, e459, hm⟩ := bnd_some hm
              obtain ⟨y471, e470, hm⟩ := bnd_some hm
              refine J.drawB [b34] [] ?_
              first | refine JD.calc 0 (by kernel_rfl) rfl trivial ss_subB (q_mvv (v := .slice _ _ _) rfl) ?_ | refine JD.calc 0 (by kernel_rfl) rfl trivial ss_subB (q_mv) ?_
              first | refine JD.calc 1 (by kernel_rfl) rfl trivial ss_subB (q_mvv (v := .int _ _) rfl) ?_ | refine JD.calc 1 (by kernel_rfl) rfl trivial ss_subB (q_mv) ?_
              refine JD.calc 2 (by kernel_rfl) rfl trivial ss_subB (q_ian rfl rfl hi424 (by first | exact hl425 | (rw [Sls.len f42]; exact hl425))) ?_
              refine JD.calc 3 (by kernel_rfl) rfl trivial ss_subB (q_fa rfl) ?_
              refine JD.loadB 4 (by kernel_rfl) rfl trivial (q_ldf rfl (hc430.cell (j := 0) rfl)) ?_
              first | refine JD.calc 5 (by kernel_rfl) rfl trivial ss_subB (q_mvv (v := .slice _ _ _) rfl) ?_ | refine JD.calc 5 (by kernel_rfl) rfl trivial ss_subB (q_mv) ?_
              first | refine JD.calc 6 (by kernel_rfl) rfl trivial ss_subB (q_mvv (v := .int _ _) rfl) ?_ | refine JD.calc 6 (by kernel_rfl) rfl trivial ss_subB (q_mv) ?_
              refine JD.calc 7 (by kernel_rfl) rfl trivial ss_subB (q_ian rfl rfl hi424 (by first | exact hl425 | (rw [Sls.len f42]; exact hl425))) ?_
              refine JD.calc 8 (by kernel_rfl) rfl trivial ss_subB (q_fa rfl) ?_
              refine JD.loadB 9 (by kernel_rfl) rfl trivial (q_ldfs (vs := [_, _]) rfl hc430 rfl) ?_
              refine JD.loadB 10 (by kernel_rfl) rfl trivial (q_lda (vs := [_, _]) rfl inferInstance ⟨rfl, rfl, trivial⟩) ?_
              first | refine JD.calc 11 (by kernel_rfl) rfl trivial ss_subB (q_mvv (v := .slice _ _ _) rfl) ?_ | refine JD.calc 11 (by kernel_rfl) rfl trivial ss_subB (q_mv) ?_
              first | refine JD.calc 12 (by kernel_rfl) rfl trivial ss_subB (q_mvv (v := .int _ _) rfl) ?_ | refine JD.calc 12 (by kernel_rfl) rfl trivial ss_subB (q_mv) ?_
              refine JD.calc 13 (by kernel_rfl) rfl trivial ss_subB (q_ian rfl rfl hi442 (by first | exact hl443 | (rw [Sls.len f28]; exact hl443))) ?_
              refine JD.calc 14 (by kernel_rfl) rfl trivial ss_subB (q_fa rfl) ?_
              refine JD.loadB 15 (by kernel_rfl) rfl trivial (q_ldfs (vs := [_, _]) rfl hc448 rfl) ?_
              refine JD.one 16 (by kernel_rfl) ?_
              refine JX.effB rfl rfl trivial ?_
              refine o_call (rmul_fn (IntR.at (Mo.up f33)) (IntR.at (Mo.up f454)) e459) (fun v455 h456 s457 r458 => ?_)
              obtain ⟨g461, p462, n463, c464, rfl, f465⟩ := IntAt.op r458
              refine JL.nil ⟨rfl, inferInstance, inferInstance, ?_⟩
              refine JD.one 17 (by kernel_rfl) ?_
              refine JX.effB rfl rfl trivial ?_
              refine o_call (radd_fn (IntR.at (Mo.up f436)) (IntR.at (Mo.up f465)) e470) (fun v466 h467 s468 r469 => ?_)
              obtain ⟨g472, p473, n474, c475, rfl, f476⟩ := IntAt.op r469
              refine JL.nil ⟨rfl, inferInstance, inferInstance, ?_⟩
              first | refine JD.calc 18 (by kernel_rfl) rfl trivial ss_subB (q_bd [.int _ _, .bool _, .slice _ _ _] rfl) ?_ | refine JD.calc 18 (by kernel_rfl) rfl trivial ss_subB (q_bd [_, _, _] rfl) ?_
              refine JD.one 19 (by kernel_rfl) ?_
              refine JX.effB rfl rfl trivial ?_
              first | refine o_stc (vs := [.int _ _, .bool _, .slice _ _ _]) (l' := [.int _ _, .bool _, .slice _ _ _]) rfl rfl rfl rfl rfl inferInstance rfl rfl ?_ | refine o_stc (vs := [_, _, _]) (l' := [_, _, _]) rfl rfl rfl rfl rfl inferInstance rfl rfl ?_
              refine JL.nil ⟨rfl, inferInstance, inferInstance, ?_⟩
              refine JD.done (by kernel_rfl) ?_ _
              --
              refine J.seq ?_
              obtain ⟨k477, hm⟩ := chk64_some hm
              refine J.region ?_
              first | refine o_q (q_mvv (v := .int _ _) rfl) ?_ | refine o_q (q_mv) ?_
              refine o_q (q_add rfl rfl (wi64 k477)) ?_
              first | refine o_q (q_asv (v := .int _ _) rfl) ?_ | refine o_q (q_as) ?_
              refine JL.nil ?_
              obtain ⟨k478, hm⟩ := chk64_some hm
              refine J.region ?_
              first | refine o_q (q_mvv (v := .int _ _) rfl) ?_ | refine o_q (q_mv) ?_
              refine o_q (q_add rfl rfl (wi64 k478)) ?_
              first | refine o_q (q_asv (v := .int _ _) rfl) ?_ | refine o_q (q_as) ?_
              refine JL.nil ?_
              exact ⟨⟨x422.Col, y471, v38, v49 + 1, v50 + 1, g472, p473, n474, c475, (some ⟨b427, o428, none⟩), n40, c41⟩, rfl, ⟨rfl, rfl, rfl, rfl, trivial⟩, ⟨rfl, rfl, rfl, trivial⟩, ⟨(Mo.up f476), (Sls.mono f42), hm, inferInstance⟩, inferInstance⟩
    ·
      rintro ⟨v65, v66, v72, v77, v78, g67, p68, n69, c70, p73, n74, c75⟩ σq79 hq79 Lq79 sq79 ⟨f71, f76, hm, hspq79⟩
      refine J.sp hspq79 ?_
      unfold M.torsionref06_Merge_j1 at hm
      refine J.seq ?_
      obtain ⟨y300, e299, hm⟩ := bnd_some hm
      refine J.region ?_
      refine o_q (q_fa rfl) ?_
      refine o_q (q_lda (vs := [_, _]) rfl inferInstance ⟨rfl, rfl, trivial⟩) ?_
      refine o_call (rsign_fn (IntR.at (Mo.up f71)) e299) (fun v295 h296 s297 r298 => ?_)
      obtain rfl := (show _ = _ from r298)
      refine o_q (q_neq rfl rfl) ?_
      refine JL.nil ?_
      by_cases c301 : y300 = 0
      ·
        replace hm := ite_T c301 hm
        refine J.condF rfl (decide_eq_false (fun z => z c301)) ?_
        refine J.skip ?_
        replace hm := inl_onward hm hk56
        exact ⟨⟨m57, v72, v43, v77, v78, p73, n74, c75, p44, n45, c46, L48⟩, rfl, ⟨rfl, rfl, trivial⟩, ⟨rfl, rfl, rfl, rfl, trivial⟩, ⟨(Sls.mono f76), (OwnL.mono f47), hm, inferInstance⟩, (Nat.lt_succ_self _), inferInstance⟩
      ·
        replace hm := ite_F c301 hm
        refine J.condT rfl (decide_eq_true c301) ?_
        obtain ⟨l305, e306, hm⟩ := bnd_some hm
        refine J.region ?_
        first | refine o_q (q_mvv (v := .slice _ _ _) rfl) ?_ | refine o_q (q_mv) ?_
        refine o_q (q_lda (vs := [_, _, _]) rfl inferInstance ⟨rfl, rfl, rfl, trivial⟩) ?_
        first | refine o_bs [.int _ _, .bool _, .slice _ _ _] (by decide) rfl (fun b302 => ?_) | refine o_bs [_, _, _] (by decide) rfl (fun b302 => ?_)
        refine JL.fact (fun h => Cells TTermR 3 h [.int .i64 v65, .bool g67, .slice p68 n69 c70] [(TTerm.mk v65 v66)]) (show Cells TTermR 3 _ [.int .i64 v65, .bool g67, .slice p68 n69 c70] [(TTerm.mk v65 v66)] from (Cells.cons (R := TTermR) (us := [.int .i64 v65, .bool g67, .slice p68 n69 c70]) rfl ⟨_, _, _, _, rfl, (Mo.up f71)⟩ Cells.nil)) (fun hc303 => ?_)
        refine JL.fact (fun h => OwnL TTermR 71 3 h (.slice (some ⟨b302, 0, none⟩) 1 1) [(TTerm.mk v65 v66)] [(b302, row 71 [.int .i64 v65, .bool g67, .slice p68 n69 c70])]) (OwnL.lit _ rfl hc303 rfl) (fun ho304 => ?_)
        refine o_appB (R := TTermR) rfl rfl (OwnL.mono f47) inferInstance hc303 e306 (fun p307 c308 L309 ho310 => ?_)
        first | refine o_q (q_asv (v := .slice _ _ _) rfl) ?_ | refine o_q (q_as) ?_
        refine JL.nil ?_
        replace hm := inl_onward hm hk56
        exact ⟨⟨m57, v72, l305, v77, v78, p73, n74, c75, p307, l305.length, c308, L309⟩, rfl, ⟨rfl, rfl, trivial⟩, ⟨rfl, rfl, rfl, rfl, trivial⟩, ⟨(Sls.mono f76), (OwnL.mono ho310), hm, inferInstance⟩, (Nat.lt_succ_self _), inferInstance⟩
set_option maxHeartbeats 4000000 in
theorem torsionref06_Transpose_fn {h : Heap} {x0 : TSparse} {v0 : Value} (r0 : AggV TSparseR h v0 x0) {r : TSparse} (hm : M.torsionref06_Transpose x0 = some r) :
    Fn Try.prog 38 #[v0] h fun v h' => AggV TSparseR h' v r := by
  obtain ⟨_, rfl, p21, n22, c23, rfl, f24⟩ := r0
  refine Fn.intro (args := [_]) Try.func38 rfl rfl (Nat.le_of_ble_eq_true rfl) fun w => ?_
  unfold M.torsionref06_Transpose at hm
  refine J.seq ?_
  refine J.region ?_
  first | refine o_bx (v := .agg ⟨[.int _ _, .int _ _, .slice _ _ _]⟩) rfl rfl (fun b25 => ?_) | refine o_bx rfl rfl (fun b25 => ?_)
  refine o_al (fun b26 => ?_)
  refine JL.nil ?_
  refine J.seq ?_
  obtain ⟨y32, e31, hm⟩ := bnd_some hm
  refine J.region ?_
  refine o_q (q_lda (vs := [_, _, _]) rfl inferInstance ⟨rfl, rfl, rfl, trivial⟩) ?_
  refine o_call (torsionref06_To_fn ⟨_, rfl, ⟨_, _, _, rfl, Sls.mono f24⟩⟩ e31) (fun v27 h28 s29 r30 => ?_)
  obtain ⟨_, rfl, p33, n34, c35, rfl, f36⟩ := r30
  refine o_al (fun b37 => ?_)
  first | refine o_stc (vs := [.int _ _, .int _ _, .slice _ _ _]) (l' := [.int _ _, .int _ _, .slice _ _ _]) rfl rfl rfl rfl rfl inferInstance rfl rfl ?_ | refine o_stc (vs := [_, _, _]) (l' := [_, _, _]) rfl rfl rfl rfl rfl inferInstance rfl rfl ?_
  refine JL.nil ?_
  refine J.seq ?_
  refine J.region ?_
  refine o_q (q_fa rfl) ?_
  refine o_q (q_ld rfl inferInstance rfl) ?_
  refine o_q (q_fa rfl) ?_
  refine o_q (q_ld rfl inferInstance rfl) ?_
  first | refine o_q (q_bd [.int _ _, .int _ _, .slice _ _ _] rfl) ?_ | refine o_q (q_bd [_, _, _] rfl) ?_
  refine o_al (fun b38 => ?_)
  first | refine o_stc (vs := [.int _ _, .int _ _, .slice _ _ _]) (l' := [.int _ _, .int _ _, .slice _ _ _]) rfl rfl rfl rfl rfl inferInstance rfl rfl ?_ | refine o_stc (vs := [_, _, _]) (l' := [_, _, _]) rfl rfl rfl rfl rfl inferInstance rfl rfl ?_
  refine JL.nil ?_
  refine J.seq ?_
  refine J.seq ?_
  refine J.region ?_
  first | refine o_q (q_asv (v := .int _ _) rfl) ?_ | refine o_q (q_as) ?_
  refine JL.nil ?_
  refine J.block ?_
  obtain ⟨k47, hm⟩ := rngN_some hm
  refine J.loopK (α := Int × (List (List TTerm)) × (Option Addr) × Nat × Nat × Own) (fun ⟨i46, v39, p40, n41, c42, L44⟩ h' L' => OwnL (LR TTermR 3) 26 1 h' (.slice p40 n41 c42) v39 L44 ∧ 0 ≤ i46 ∧ forN (M.torsionref06_Transpose_b2 x0 y32) (M.torsionref06_Transpose_k2 x0) x0.Cols i46 v39 = some r ∧ Sp (L44 ++ ([(b25, row 24 [.int .i64 x0.Rows, .int .i64 x0.Cols, .slice p21 n22 c23]), (b26, row 24 [.int .i64 0, .int .i64 0, .slice none 0 0]), (b37, row 50 [.int .i64 y32.Rows, .int .i64 y32.Cols, .slice p33 n34 c35]), (b38, row 24 [.int .i64 x0.Cols, .int .i64 x0.Rows, .slice p40 n41 c42])])) L') [(1, .pointer _), (2, .pointer _), (3, .pointer _), (4, .pointer _)] ⟨rfl, rfl, rfl, rfl, trivial⟩ (fun ⟨i46, v39, p40, n41, c42, L44⟩ => [(5, .int .i64 i46)]) (fun ⟨i46, v39, p40, n41, c42, L44⟩ => (x0.Cols - i46).toNat) ⟨0, ([] : List (List TTerm)), none, 0, 0, []⟩ ⟨(OwnL.nil _), Int.le_refl _, hm, inferInstance⟩ ⟨rfl, trivial⟩ ?_
  rintro ⟨i46, v39, p40, n41, c42, L44⟩ σq48 hq48 Lq48 sq48 ⟨f43, hle49, hm, hspq48⟩
  refine J.sp hspq48 ?_
  refine J.seq ?_
  refine J.seq ?_
  refine J.region ?_
  first | refine o_q (q_mvv (v := .int _ _) rfl) ?_ | refine o_q (q_mv) ?_
  refine o_q (q_fa rfl) ?_
  refine o_q (q_ld rfl inferInstance rfl) ?_
  refine o_q (q_lss rfl rfl) ?_
  refine JL.nil ?_
  by_cases c52 : i46 < x0.Cols
  ·
    obtain ⟨o50, hm, hk51⟩ := forN_lt c52 hm
    unfold M.torsionref06_Transpose_b2 at hm
    refine J.condT rfl (decide_eq_true c52) ?_
    have k53 : -9223372036854775808 ≤ i46 + 1 ∧ i46 + 1 ≤ 9223372036854775807 := by omega
    refine J.skip ?_
    refine J.seq ?_
    refine J.block ?_
    refine J.seq ?_
    refine J.region ?_
    first | refine o_bs [] (by decide) rfl (fun b54 => ?_) | refine o_bs [] (by decide) rfl (fun b54 => ?_)
    refine JL.fact (fun h => Cells IntR 2 h [] ([] : List Int)) (show Cells IntR 2 _ [] ([] : List Int) from Cells.nil) (fun hc55 => ?_)
    refine JL.fact (fun h => OwnL IntR 37 2 h (.slice (some ⟨b54, 0, none⟩) 0 0) ([] : List Int) [(b54, row 37 [])]) (OwnL.lit _ rfl hc55 rfl) (fun ho56 => ?_)
    first | refine o_q (q_asv (v := .slice _ _ _) rfl) ?_ | refine o_q (q_as) ?_
    refine JL.nil ?_
    refine J.seq ?_
    refine J.seq ?_
    refine J.region ?_
    first | refine o_q (q_asv (v := .int _ _) rfl) ?_ | refine o_q (q_as) ?_
    refine JL.nil ?_
    refine J.block ?_
    obtain ⟨k65, hm⟩ := rngN_some hm
    refine J.loopK (α := Int × (List Int) × (Option Addr) × Nat × Nat × Own) (fun ⟨i64, v57, p58, n59, c60, L62⟩ h' L' => OwnL IntR 37 2 h' (.slice p58 n59 c60) v57 L62 ∧ 0 ≤ i64 ∧ forN (M.torsionref06_Transpose_b1 y32 i46) (M.torsionref06_Transpose_k1 v39) x0.Rows i64 v57 = some o50 ∧ Sp (L44 ++ (L62 ++ ([(b25, row 24 [.int .i64 x0.Rows, .int .i64 x0.Cols, .slice p21 n22 c23]), (b26, row 24 [.int .i64 0, .int .i64 0, .slice none 0 0]), (b37, row 50 [.int .i64 y32.Rows, .int .i64 y32.Cols, .slice p33 n34 c35]), (b38, row 24 [.int .i64 x0.Cols, .int .i64 x0.Rows, .slice p40 n41 c42])]))) L') [(1, .pointer _), (2, .pointer _), (3, .pointer _), (4, .pointer _), (5, .int _ _)] ⟨rfl, rfl, rfl, rfl, rfl, trivial⟩ (fun ⟨i64, v57, p58, n59, c60, L62⟩ => [(6, .slice p58 n59 c60), (7, .int .i64 i64)]) (fun ⟨i64, v57, p58, n59, c60, L62⟩ => (x0.Rows - i64).toNat) ⟨0, ([] : List Int), (some ⟨b54, 0, none⟩), 0, 0, [(b54, row 37 [])]⟩ ⟨(OwnL.mono ho56), Int.le_refl _, hm, inferInstance⟩ ⟨rfl, rfl, trivial⟩ ?_
    rintro ⟨i64, v57, p58, n59, c60, L62⟩ σq66 hq66 Lq66 sq66 ⟨f61, hle67, hm, hspq66⟩
    refine J.sp hspq66 ?_
    refine J.seq ?_
    refine J.seq ?_
    refine J.region ?_
    first | refine o_q (q_mvv (v := .int _ _) rfl) ?_ | refine o_q (q_mv) ?_
    refine o_q (q_fa rfl) ?_
    refine o_q (q_ld rfl inferInstance rfl) ?_
    refine o_q (q_lss rfl rfl) ?_
    refine JL.nil ?_
    by_cases c70 : i64 < x0.Rows
    ·
      obtain ⟨o68, hm, hk69⟩ := forN_lt c70 hm
      unfold M.torsionref06_Transpose_b1 at hm
      refine J.condT rfl (decide_eq_true c70) ?_
      have k71 : -9223372036854775808 ≤ i64 + 1 ∧ i64 + 1 ≤ 9223372036854775807 := by omega
      refine J.skip ?_
      refine J.seq ?_
      refine J.block ?_
      obtain ⟨i73, x72, hi74, hl75, hx76, hm⟩ := nth_some hm
      obtain ⟨b77, o78, rfl⟩ := Sls.op f36 hl75
      obtain ⟨us79, hc80, hR81⟩ := Sls.at f36 hx76
      obtain ⟨p82, n83, c84, rfl, f85⟩ := hR81
      obtain ⟨i87, x86, hi88, hl89, hx90, hm⟩ := nth_some hm
      obtain ⟨b91, o92, rfl⟩ := Sls.op f85 hl89
      obtain ⟨us93, hc94, hR95⟩ := Sls.at f85 hx90
      obtain ⟨g96, p97, n98, c99, rfl, f100⟩ := IntR.op hR95
      obtain ⟨l104, e105, hm⟩ := bnd_some hm
      refine J.region ?_
      first | refine o_q (q_mvv (v := .slice _ _ _) rfl) ?_ | refine o_q (q_mv) ?_
      refine o_q (q_fa rfl) ?_
      refine o_q (q_ld rfl inferInstance rfl) ?_
      first | refine o_q (q_mvv (v := .int _ _) rfl) ?_ | refine o_q (q_mv) ?_
      refine o_q (q_ian rfl rfl hi74 (by first | exact hl75 | (rw [Sls.len f36]; exact hl75))) ?_
      refine o_q (q_ldf rfl hc80) ?_
      first | refine o_q (q_mvv (v := .int _ _) rfl) ?_ | refine o_q (q_mv) ?_
      refine o_q (q_ian rfl rfl hi88 (by first | exact hl89 | (rw [Sls.len f85]; exact hl89))) ?_
      refine o_q (q_ldfa rfl hc94) ?_
      first | refine o_bs [.bool _, .slice _ _ _] (by decide) rfl (fun b101 => ?_) | refine o_bs [_, _] (by decide) rfl (fun b101 => ?_)
      refine JL.fact (fun h => Cells IntR 2 h [.bool g96, .slice p97 n98 c99] [x86]) (show Cells IntR 2 _ [.bool g96, .slice p97 n98 c99] [x86] from (Cells.cons (R := IntR) (us := [.bool g96, .slice p97 n98 c99]) rfl (Mo.up f100) Cells.nil)) (fun hc102 => ?_)
      refine JL.fact (fun h => OwnL IntR 37 2 h (.slice (some ⟨b101, 0, none⟩) 1 1) [x86] [(b101, row 37 [.bool g96, .slice p97 n98 c99])]) (OwnL.lit _ rfl hc102 rfl) (fun ho103 => ?_)
      refine o_appB (R := IntR) rfl rfl (OwnL.mono f61) inferInstance hc102 e105 (fun p106 c107 L108 ho109 => ?_)
      first | refine o_q (q_asv (v := .slice _ _ _) rfl) ?_ | refine o_q (q_as) ?_
      refine JL.nil ?_
      refine J.region ?_
      first | refine o_q (q_mvv (v := .int _ _) rfl) ?_ | refine o_q (q_mv) ?_
      refine o_q (q_add rfl rfl (wi64 k71)) ?_
      first | refine o_q (q_asv (v := .int _ _) rfl) ?_ | refine o_q (q_as) ?_
      refine JL.nil ?_
      replace hm := inl_onward hm hk69
      exact ⟨⟨i64 + 1, l104, p106, l104.length, c107, L108⟩, rfl, ⟨rfl, rfl, rfl, rfl, rfl, trivial⟩, ⟨rfl, rfl, trivial⟩, ⟨(OwnL.mono ho109), Int.le_trans hle67 (Int.le_of_lt (Int.lt_succ _)), hm, inferInstance⟩, (muN c70), inferInstance⟩
    ·
      replace hm := forN_ge c70 hm
      unfold M.torsionref06_Transpose_k1 at hm
      refine J.condF rfl (decide_eq_false c70) ?_
      refine J.exit ?_
      refine J.fzO (R := IntR) (OwnL.mono f61) (fun h110 s111 f112 => ?_)
      obtain ⟨y118, e117, hm⟩ := bnd_some hm
      obtain ⟨l126, e127, hm⟩ := bnd_some hm
      refine J.drawB [b38] [7] ?_
      refine JD.calc 0 (by kernel_rfl) rfl trivial ss_subB (q_fa rfl) ?_
      refine JD.loadB 1 (by kernel_rfl) rfl trivial (q_ld rfl inferInstance rfl) ?_
      first | refine JD.calc 2 (by kernel_rfl) rfl trivial ss_subB (q_mvv (v := .slice _ _ _) rfl) ?_ | refine JD.calc 2 (by kernel_rfl) rfl trivial ss_subB (q_mv) ?_
      refine JD.one 3 (by kernel_rfl) ?_
      refine JX.effB rfl rfl trivial ?_
      refine o_call (torsionref06_Row_fn (Sls.mono f112) e117) (fun v113 h114 s115 r116 => ?_)
      obtain ⟨p119, n120, c121, rfl, f122⟩ := Sls.op3 r116
      refine JL.nil ⟨rfl, inferInstance, inferInstance, ?_⟩
      refine JD.one 4 (by kernel_rfl) ?_
      refine JX.effB rfl rfl trivial ?_
      first | refine o_bs [.slice _ _ _] (by decide) rfl (fun b123 => ?_) | refine o_bs [_] (by decide) rfl (fun b123 => ?_)
      refine JL.fact (fun h => Cells (LR TTermR 3) 1 h [.slice p119 n120 c121] [y118]) (show Cells (LR TTermR 3) 1 _ [.slice p119 n120 c121] [y118] from (Cells.cons (R := (LR TTermR 3)) (us := [.slice p119 n120 c121]) rfl ⟨_, _, _, rfl, Sls.mono f122⟩ Cells.nil)) (fun hc124 => ?_)
      refine JL.fact (fun h => OwnL (LR TTermR 3) 26 1 h (.slice (some ⟨b123, 0, none⟩) 1 1) [y118] [(b123, row 26 [.slice p119 n120 c121])]) (OwnL.lit _ rfl hc124 rfl) (fun ho125 => ?_)
      refine JL.nil ⟨rfl, inferInstance, inferInstance, ?_⟩
      refine JD.one 5 (by kernel_rfl) ?_
      refine JX.effB rfl rfl trivial ?_
      refine o_appB (R := (LR TTermR 3)) rfl rfl (OwnL.mono f43) inferInstance hc124 e127 (fun p128 c129 L130 ho131 => ?_)
      refine JL.nil ⟨rfl, inferInstance, inferInstance, ?_⟩
      refine JD.calc 6 (by kernel_rfl) rfl trivial ss_subB (q_fa rfl) ?_
      refine JD.one 7 (by kernel_rfl) ?_
      refine JX.mut rfl rfl trivial ?_
      first | refine o_stc (vs := [.slice _ _ _]) (l' := [.int _ _, .int _ _, .slice _ _ _]) rfl rfl rfl rfl rfl inferInstance rfl rfl ?_ | refine o_stc (vs := [_]) (l' := [_, _, _]) rfl rfl rfl rfl rfl inferInstance rfl rfl ?_
      refine JL.nil ⟨rfl, ?_⟩
      refine JD.done (by kernel_rfl) ?_ _
      --
      refine J.region ?_
      first | refine o_q (q_mvv (v := .int _ _) rfl) ?_ | refine o_q (q_mv) ?_
      refine o_q (q_add rfl rfl (wi64 k53)) ?_
      first | refine o_q (q_asv (v := .int _ _) rfl) ?_ | refine o_q (q_as) ?_
      refine JL.nil ?_
      replace hm := inl_onward hm hk51
      exact ⟨⟨i46 + 1, l126, p128, l126.length, c129, L130⟩, rfl, ⟨rfl, rfl, rfl, rfl, trivial⟩, ⟨rfl, trivial⟩, ⟨(OwnL.mono ho131), Int.le_trans hle49 (Int.le_of_lt (Int.lt_succ _)), hm, inferInstance⟩, (muN c52), inferInstance⟩
  ·
    replace hm := forN_ge c52 hm
    unfold M.torsionref06_Transpose_k2 at hm
    refine J.condF rfl (decide_eq_false c52) ?_
    refine J.exit ?_
    refine J.seq ?_
    refine J.region ?_
    refine o_q (q_lda (vs := [_, _, _]) rfl inferInstance ⟨rfl, rfl, rfl, trivial⟩) ?_
    first | refine o_stc (vs := [.int _ _, .int _ _, .slice _ _ _]) (l' := [.int _ _, .int _ _, .slice _ _ _]) rfl rfl rfl rfl rfl inferInstance rfl rfl ?_ | refine o_stc (vs := [_, _, _]) (l' := [_, _, _]) rfl rfl rfl rfl rfl inferInstance rfl rfl ?_
    refine JL.nil ?_
    refine J.fzO (R := (LR TTermR 3)) (OwnL.mono f43) (fun h132 s133 f134 => ?_)
    refine J.ret ?_
    obtain rfl := Option.some.inj hm
    exact ret_ok (fn := Try.f38) rfl (.agg rfl inferInstance inferInstance .nil) ⟨_, rfl, ⟨_, _, _, rfl, Sls.mono f134⟩⟩
set_option maxHeartbeats 4000000 in
theorem torsionref06_Times_fn {h : Heap} {x0 : List Int} {x1 : TSparse} {v0 : Value} {v1 : Value} (r0 : Sls IntR 2 h v0 x0) (r1 : AggV TSparseR h v1 x1) {r : (List Int) × Int} (hm : M.torsionref06_Times x0 x1 = some r) :
    Fn Try.prog 37 #[v0, v1] h fun v h' => ∃ u0 u1, v = .tuple ⟨[u0, u1]⟩ ∧ Sls IntR 2 h' u0 r.1 ∧ u1 = .int .i64 r.2 := by
  obtain ⟨p21, n22, c23, rfl, f24⟩ := Sls.op3 r0
  obtain ⟨_, rfl, p25, n26, c27, rfl, f28⟩ := r1
  refine Fn.intro (args := [_, _]) Try.func37 rfl rfl (Nat.le_of_ble_eq_true rfl) fun w => ?_
  unfold M.torsionref06_Times at hm
  refine J.seq ?_
  refine J.region ?_
  first | refine o_bx (v := .agg ⟨[.int _ _, .int _ _, .slice _ _ _]⟩) rfl rfl (fun b29 => ?_) | refine o_bx rfl rfl (fun b29 => ?_)
  first | refine o_q (q_asv (v := .slice _ _ _) rfl) ?_ | refine o_q (q_as) ?_
  first | refine o_q (q_asv (v := .int _ _) rfl) ?_ | refine o_q (q_as) ?_
  refine JL.nil ?_
  refine J.seq ?_
  refine J.seq ?_
  refine J.region ?_
  first | refine o_q (q_mvv (v := .slice _ _ _) rfl) ?_ | refine o_q (q_mv) ?_
  refine o_q (q_lenE (k := x0.length) rfl (Sls.len f24)) ?_
  refine o_q (q_fa rfl) ?_
  refine o_q (q_ld rfl inferInstance rfl) ?_
  refine o_q (q_neq rfl rfl) ?_
  refine JL.nil ?_
  by_cases c30 : (x0.length : Int) = x1.Rows
  ·
    replace hm := ite_T c30 hm
    refine J.condF rfl (decide_eq_false (fun z => z c30)) ?_
    refine J.skip ?_
    refine J.seq ?_
    refine J.region ?_
    first | refine o_bs [] (by decide) rfl (fun b31 => ?_) | refine o_bs [] (by decide) rfl (fun b31 => ?_)
    refine JL.fact (fun h => Cells TTermR 3 h [] ([] : List TTerm)) (show Cells TTermR 3 _ [] ([] : List TTerm) from Cells.nil) (fun hc32 => ?_)
    refine JL.fact (fun h => OwnL TTermR 71 3 h (.slice (some ⟨b31, 0, none⟩) 0 0) ([] : List TTerm) [(b31, row 71 [])]) (OwnL.lit _ rfl hc32 rfl) (fun ho33 => ?_)
    first | refine o_q (q_asv (v := .slice _ _ _) rfl) ?_ | refine o_q (q_as) ?_
    refine JL.nil ?_
    refine J.seq ?_
    refine J.seq ?_
    refine J.region ?_
    first | refine o_q (q_asv (v := .int _ _) rfl) ?_ | refine o_q (q_as) ?_
    refine JL.nil ?_
    refine J.block ?_
    refine J.fzO (R := TTermR) (OwnL.mono ho33) (fun h34 s35 f36 => ?_)
    obtain ⟨hl44, hm⟩ := rngL_some hm
    refine J.loopK (α := Nat × (List TTerm) × (Option Addr) × Nat × Nat) (fun ⟨i43, v37, p38, n39, c40⟩ h' L' => Sls TTermR 3 h' (.slice p38 n39 c40) v37 ∧ forL (M.torsionref06_Times_b1 x1) (M.torsionref06_Times_k1 x1) (List.drop i43 x0) i43 v37 = some r ∧ Sp ([(b29, row 24 [.int .i64 x1.Rows, .int .i64 x1.Cols, .slice p25 n26 c27])]) L') [(0, .slice _ _ _), (3, .pointer _)] ⟨rfl, rfl, trivial⟩ (fun ⟨i43, v37, p38, n39, c40⟩ => [(6, .slice p38 n39 c40), (7, .int .i64 (i43 : Int))]) (fun ⟨i43, v37, p38, n39, c40⟩ => x0.length - i43) ⟨0, ([] : List TTerm), (some ⟨b31, 0, none⟩), 0, 0⟩ ⟨(Sls.mono f36), hm, inferInstance⟩ ⟨rfl, rfl, trivial⟩ ?_
    rintro ⟨i43, v37, p38, n39, c40⟩ σq45 hq45 Lq45 sq45 ⟨f41, hm, hspq45⟩
    refine J.sp hspq45 ?_
    refine J.seq ?_
    refine J.seq ?_
    refine J.region ?_
    first | refine o_q (q_mvv (v := .int _ _) rfl) ?_ | refine o_q (q_mv) ?_
    first | refine o_q (q_mvv (v := .slice _ _ _) rfl) ?_ | refine o_q (q_mv) ?_
    refine o_q (q_lenE (k := x0.length) rfl (Sls.len f24)) ?_
    refine o_q (q_lss rfl rfl) ?_
    refine JL.nil ?_
    by_cases c49 : (i43 : Int) < (x0.length : Int)
    ·
      obtain ⟨x50, o47, hl51, hx52, hm, hk48⟩ := forL_cons c49 hm
      unfold M.torsionref06_Times_b1 at hm
      refine J.condT rfl (decide_eq_true c49) ?_
      have k53 : -9223372036854775808 ≤ (i43 : Int) + 1 ∧ (i43 : Int) + 1 ≤ 9223372036854775807 := by omega
      refine J.skip ?_
      refine J.seq ?_
      refine J.block ?_
      obtain ⟨i55, x54, hi56, hl57, hx58, hm⟩ := nth_some hm
      obtain ⟨b59, o60, rfl⟩ := Sls.op f28 hl57
      obtain ⟨us61, hc62, hR63⟩ := Sls.at f28 hx58
      obtain ⟨p64, n65, c66, rfl, f67⟩ := hR63
      obtain ⟨b68, o69, rfl⟩ := Sls.op f24 hl51
      obtain ⟨us70, hc71, hR72⟩ := Sls.at f24 hx52
      obtain ⟨g73, p74, n75, c76, rfl, f77⟩ := IntR.op hR72
      obtain ⟨y83, e82, hm⟩ := bnd_some hm
      refine J.drawB [b29] [] ?_
      first | refine JD.calc 0 (by kernel_rfl) rfl trivial ss_subB (q_mvv (v := .slice _ _ _) rfl) ?_ | refine JD.calc 0 (by kernel_rfl) rfl trivial ss_subB (q_mv) ?_
      refine JD.calc 1 (by kernel_rfl) rfl trivial ss_subB (q_fa rfl) ?_
      refine JD.loadB 2 (by kernel_rfl) rfl trivial (q_ld rfl inferInstance rfl) ?_
      first | refine JD.calc 3 (by kernel_rfl) rfl trivial ss_subB (q_mvv (v := .int _ _) rfl) ?_ | refine JD.calc 3 (by kernel_rfl) rfl trivial ss_subB (q_mv) ?_
      refine JD.calc 4 (by kernel_rfl) rfl trivial ss_subB (q_ian rfl rfl hi56 (by first | exact hl57 | (rw [Sls.len f28]; exact hl57))) ?_
      refine JD.loadB 5 (by kernel_rfl) rfl trivial (q_ldf rfl hc62) ?_
      first | refine JD.calc 6 (by kernel_rfl) rfl trivial ss_subB (q_mvv (v := .slice _ _ _) rfl) ?_ | refine JD.calc 6 (by kernel_rfl) rfl trivial ss_subB (q_mv) ?_
      first | refine JD.calc 7 (by kernel_rfl) rfl trivial ss_subB (q_mvv (v := .int _ _) rfl) ?_ | refine JD.calc 7 (by kernel_rfl) rfl trivial ss_subB (q_mv) ?_
      refine JD.calc 8 (by kernel_rfl) rfl trivial ss_subB (q_ian rfl rfl rfl (by first | exact hl51 | (rw [Sls.len f24]; exact hl51))) ?_
      refine JD.loadB 9 (by kernel_rfl) rfl trivial (q_ldfa rfl hc71) ?_
      refine JD.one 10 (by kernel_rfl) ?_
      refine JX.effB rfl rfl trivial ?_
      refine o_call (torsionref06_Merge_fn (Sls.mono f41) (Sls.mono f67) (IntR.at (Mo.up f77)) e82) (fun v78 h79 s80 r81 => ?_)
      obtain ⟨p84, n85, c86, rfl, f87⟩ := Sls.op3 r81
      refine JL.nil ⟨rfl, inferInstance, inferInstance, ?_⟩
      first | refine JD.calc 11 (by kernel_rfl) rfl trivial ss_subB (q_asv (v := .slice _ _ _) rfl) ?_ | refine JD.calc 11 (by kernel_rfl) rfl trivial ss_subB (q_as) ?_
      refine JD.done (by kernel_rfl) ?_ _
      --
      refine J.region ?_
      first | refine o_q (q_mvv (v := .int _ _) rfl) ?_ | refine o_q (q_mv) ?_
      refine o_q (q_add rfl rfl (wi64 k53)) ?_
      first | refine o_q (q_asv (v := .int _ _) rfl) ?_ | refine o_q (q_as) ?_
      refine JL.nil ?_
      replace hm := inl_onward hm hk48
      exact ⟨⟨i43 + 1, y83, p84, n85, c86⟩, rfl, ⟨rfl, rfl, trivial⟩, ⟨rfl, rfl, trivial⟩, ⟨(Sls.mono f87), hm, inferInstance⟩, (muL hl51), inferInstance⟩
    ·
      replace hm := forL_nil c49 hm
      unfold M.torsionref06_Times_k1 at hm
      refine J.condF rfl (decide_eq_false c49) ?_
      refine J.exit ?_
      refine J.seq ?_
      obtain ⟨y93, e92, hm⟩ := bnd_some hm
      refine J.region ?_
      first | refine o_q (q_mvv (v := .slice _ _ _) rfl) ?_ | refine o_q (q_mv) ?_
      refine o_q (q_fa rfl) ?_
      refine o_q (q_ld rfl inferInstance rfl) ?_
      refine o_call (torsionref06_Full_fn (Sls.mono f41) e92) (fun v88 h89 s90 r91 => ?_)
      obtain ⟨p94, n95, c96, rfl, f97⟩ := Sls.op3 r91
      first | refine o_q (q_asv (v := .slice _ _ _) rfl) ?_ | refine o_q (q_as) ?_
      first | refine o_q (q_asv (v := .int _ _) rfl) ?_ | refine o_q (q_as) ?_
      refine JL.nil ?_
      refine J.ret ?_
      obtain rfl := Option.some.inj hm
      exact ret_ok (fn := Try.f37) rfl (.tmp rfl (.tmp rfl .nil)) ⟨_, _, rfl, (Sls.mono f97), rfl⟩
  ·
    replace hm := ite_F c30 hm
    refine J.condT rfl (decide_eq_true c30) ?_
    refine J.seq ?_
    refine J.region ?_
    first | refine o_q (q_asv (v := .slice _ _ _) rfl) ?_ | refine o_q (q_as) ?_
    first | refine o_q (q_asv (v := .int _ _) rfl) ?_ | refine o_q (q_as) ?_
    refine JL.nil ?_
    refine J.ret ?_
    obtain rfl := Option.some.inj hm
    exact ret_ok (fn := Try.f37) rfl (.tmp rfl (.tmp rfl .nil)) ⟨_, _, rfl, ((Sls.nil (R := IntR) (sz := 2) _)), rfl⟩
set_option maxHeartbeats 4000000 in
theorem torsionref06_Mul_fn {h : Heap} {x0 : TSparse} {x1 : TSparse} {v0 : Value} {v1 : Value} (r0 : AggV TSparseR h v0 x0) (r1 : AggV TSparseR h v1 x1) {r : TSparse × Int} (hm : M.torsionref06_Mul x0 x1 = some r) :
    Fn Try.prog 36 #[v0, v1] h fun v h' => ∃ u0 u1, v = .tuple ⟨[u0, u1]⟩ ∧ AggV TSparseR h' u0 r.1 ∧ u1 = .int .i64 r.2 := by
  obtain ⟨_, rfl, p21, n22, c23, rfl, f24⟩ := r0
  obtain ⟨_, rfl, p25, n26, c27, rfl, f28⟩ := r1
  refine Fn.intro (args := [_, _]) Try.func36 rfl rfl (Nat.le_of_ble_eq_true rfl) fun w => ?_
  unfold M.torsionref06_Mul at hm
  refine J.seq ?_
  refine J.region ?_
  first | refine o_bx (v := .agg ⟨[.int _ _, .int _ _, .slice _ _ _]⟩) rfl rfl (fun b29 => ?_) | refine o_bx rfl rfl (fun b29 => ?_)
  first | refine o_bx (v := .agg ⟨[.int _ _, .int _ _, .slice _ _ _]⟩) rfl rfl (fun b30 => ?_) | refine o_bx rfl rfl (fun b30 => ?_)
  refine o_al (fun b31 => ?_)
  first | refine o_q (q_asv (v := .int _ _) rfl) ?_ | refine o_q (q_as) ?_
  refine JL.nil ?_
  refine J.seq ?_
  refine J.seq ?_
  refine J.region ?_
  refine o_q (q_fa rfl) ?_
  refine o_q (q_ld rfl inferInstance rfl) ?_
  refine o_q (q_fa rfl) ?_
  refine o_q (q_ld rfl inferInstance rfl) ?_
  refine o_q (q_neq rfl rfl) ?_
  refine JL.nil ?_
  by_cases c32 : x0.Cols = x1.Rows
  ·
    replace hm := ite_T c32 hm
    refine J.condF rfl (decide_eq_false (fun z => z c32)) ?_
    refine J.skip ?_
    refine J.seq ?_
    refine J.region ?_
    refine o_q (q_fa rfl) ?_
    refine o_q (q_ld rfl inferInstance rfl) ?_
    refine o_q (q_fa rfl) ?_
    refine o_q (q_ld rfl inferInstance rfl) ?_
    first | refine o_q (q_bd [.int _ _, .int _ _, .slice _ _ _] rfl) ?_ | refine o_q (q_bd [_, _, _] rfl) ?_
    refine o_al (fun b33 => ?_)
    first | refine o_stc (vs := [.int _ _, .int _ _, .slice _ _ _]) (l' := [.int _ _, .int _ _, .slice _ _ _]) rfl rfl rfl rfl rfl inferInstance rfl rfl ?_ | refine o_stc (vs := [_, _, _]) (l' := [_, _, _]) rfl rfl rfl rfl rfl inferInstance rfl rfl ?_
    refine JL.nil ?_
    refine J.seq ?_
    refine J.seq ?_
    refine J.region ?_
    first | refine o_q (q_asv (v := .int _ _) rfl) ?_ | refine o_q (q_as) ?_
    refine JL.nil ?_
    refine J.block ?_
    obtain ⟨k42, hm⟩ := rngN_some hm
    refine J.loopK (α := Int × (List (List TTerm)) × (Option Addr) × Nat × Nat × Own) (fun ⟨i41, v34, p35, n36, c37, L39⟩ h' L' => OwnL (LR TTermR 3) 26 1 h' (.slice p35 n36 c37) v34 L39 ∧ 0 ≤ i41 ∧ forN (M.torsionref06_Mul_b1 x0 x1) (M.torsionref06_Mul_k1 x0 x1) x0.Rows i41 v34 = some r ∧ Sp (L39 ++ ([(b29, row 24 [.int .i64 x0.Rows, .int .i64 x0.Cols, .slice p21 n22 c23]), (b30, row 24 [.int .i64 x1.Rows, .int .i64 x1.Cols, .slice p25 n26 c27]), (b31, row 24 [.int .i64 0, .int .i64 0, .slice none 0 0]), (b33, row 24 [.int .i64 x0.Rows, .int .i64 x1.Cols, .slice p35 n36 c37])])) L') [(2, .pointer _), (3, .pointer _), (4, .pointer _), (6, .pointer _)] ⟨rfl, rfl, rfl, rfl, trivial⟩ (fun ⟨i41, v34, p35, n36, c37, L39⟩ => [(7, .int .i64 i41)]) (fun ⟨i41, v34, p35, n36, c37, L39⟩ => (x0.Rows - i41).toNat) ⟨0, ([] : List (List TTerm)), none, 0, 0, []⟩ ⟨(OwnL.nil _), Int.le_refl _, hm, inferInstance⟩ ⟨rfl, trivial⟩ ?_
    rintro ⟨i41, v34, p35, n36, c37, L39⟩ σq43 hq43 Lq43 sq43 ⟨f38, hle44, hm, hspq43⟩
    refine J.sp hspq43 ?_
    refine J.seq ?_
    refine J.seq ?_
    refine J.region ?_
    first | refine o_q (q_mvv (v := .int _ _) rfl) ?_ | refine o_q (q_mv) ?_
    refine o_q (q_fa rfl) ?_
    refine o_q (q_ld rfl inferInstance rfl) ?_
    refine o_q (q_lss rfl rfl) ?_
    refine JL.nil ?_
    by_cases c47 : i41 < x0.Rows
    ·
      obtain ⟨o45, hm, hk46⟩ := forN_lt c47 hm
      unfold M.torsionref06_Mul_b1 at hm
      refine J.condT rfl (decide_eq_true c47) ?_
      have k48 : -9223372036854775808 ≤ i41 + 1 ∧ i41 + 1 ≤ 9223372036854775807 := by omega
      refine J.skip ?_
      refine J.seq ?_
      refine J.block ?_
      refine J.seq ?_
      obtain ⟨i50, x49, hi51, hl52, hx53, hm⟩ := nth_some hm
      obtain ⟨b54, o55, rfl⟩ := Sls.op f24 hl52
      obtain ⟨us56, hc57, hR58⟩ := Sls.at f24 hx53
      obtain ⟨p59, n60, c61, rfl, f62⟩ := hR58
      obtain ⟨y68, e67, hm⟩ := bnd_some hm
      obtain ⟨y78, e77, hm⟩ := bnd_some hm
      refine J.drawB [b29, b30] [] ?_
      refine JD.calc 0 (by kernel_rfl) rfl trivial ss_subB (q_fa rfl) ?_
      refine JD.loadB 1 (by kernel_rfl) rfl trivial (q_ld rfl inferInstance rfl) ?_
      first | refine JD.calc 2 (by kernel_rfl) rfl trivial ss_subB (q_mvv (v := .int _ _) rfl) ?_ | refine JD.calc 2 (by kernel_rfl) rfl trivial ss_subB (q_mv) ?_
      refine JD.calc 3 (by kernel_rfl) rfl trivial ss_subB (q_ian rfl rfl hi51 (by first | exact hl52 | (rw [Sls.len f24]; exact hl52))) ?_
      refine JD.loadB 4 (by kernel_rfl) rfl trivial (q_ldf rfl hc57) ?_
      refine JD.calc 5 (by kernel_rfl) rfl trivial ss_subB (q_fa rfl) ?_
      refine JD.loadB 6 (by kernel_rfl) rfl trivial (q_ld rfl inferInstance rfl) ?_
      refine JD.loadB 8 (by kernel_rfl) rfl trivial (q_lda (vs := [_, _, _]) rfl inferInstance ⟨rfl, rfl, rfl, trivial⟩) ?_
      refine JD.one 7 (by kernel_rfl) ?_
      refine JX.effB rfl rfl trivial ?_
      refine o_call (torsionref06_Full_fn (Sls.mono f62) e67) (fun v63 h64 s65 r66 => ?_)
      obtain ⟨p69, n70, c71, rfl, f72⟩ := Sls.op3 r66
      refine JL.nil ⟨rfl, inferInstance, inferInstance, ?_⟩
      refine JD.one 9 (by kernel_rfl) ?_
      refine JX.effB rfl rfl trivial ?_
      refine o_call (torsionref06_Times_fn (Sls.mono f72) ⟨_, rfl, ⟨_, _, _, rfl, Sls.mono f28⟩⟩ e77) (fun v73 h74 s75 r76 => ?_)
      obtain ⟨v79, v80, rfl, r81, r82⟩ := r76
      obtain ⟨p83, n84, c85, rfl, f86⟩ := Sls.op3 r81
      obtain rfl := (show _ = _ from r82)
      refine JL.nil ⟨rfl, inferInstance, inferInstance, ?_⟩
      refine JD.calc 10 (by kernel_rfl) rfl trivial ss_subB (q_mv) ?_
      refine JD.calc 11 (by kernel_rfl) rfl trivial ss_subB (q_ex rfl rfl) ?_
      refine JD.calc 12 (by kernel_rfl) rfl trivial ss_subB (q_ex rfl rfl) ?_
      first | refine JD.calc 13 (by kernel_rfl) rfl trivial ss_subB (q_asv (v := .slice _ _ _) rfl) ?_ | refine JD.calc 13 (by kernel_rfl) rfl trivial ss_subB (q_as) ?_
      first | refine JD.calc 14 (by kernel_rfl) rfl trivial ss_subB (q_asv (v := .int _ _) rfl) ?_ | refine JD.calc 14 (by kernel_rfl) rfl trivial ss_subB (q_as) ?_
      refine JD.done (by kernel_rfl) ?_ _
      --
      obtain ⟨y92, e91, hm⟩ := bnd_some hm
      obtain ⟨l100, e101, hm⟩ := bnd_some hm
      refine J.drawB [b33] [7] ?_
      refine JD.calc 0 (by kernel_rfl) rfl trivial ss_subB (q_fa rfl) ?_
      refine JD.loadB 1 (by kernel_rfl) rfl trivial (q_ld rfl inferInstance rfl) ?_
      first | refine JD.calc 2 (by kernel_rfl) rfl trivial ss_subB (q_mvv (v := .slice _ _ _) rfl) ?_ | refine JD.calc 2 (by kernel_rfl) rfl trivial ss_subB (q_mv) ?_
      refine JD.one 3 (by kernel_rfl) ?_
      refine JX.effB rfl rfl trivial ?_
      refine o_call (torsionref06_Row_fn (Sls.mono f86) e91) (fun v87 h88 s89 r90 => ?_)
      obtain ⟨p93, n94, c95, rfl, f96⟩ := Sls.op3 r90
      refine JL.nil ⟨rfl, inferInstance, inferInstance, ?_⟩
      refine JD.one 4 (by kernel_rfl) ?_
      refine JX.effB rfl rfl trivial ?_
      first | refine o_bs [.slice _ _ _] (by decide) rfl (fun b97 => ?_) | refine o_bs [_] (by decide) rfl (fun b97 => ?_)
      refine JL.fact (fun h => Cells (LR TTermR 3) 1 h [.slice p93 n94 c95] [y92]) (show Cells (LR TTermR 3) 1 _ [.slice p93 n94 c95] [y92] from (Cells.cons (R := (LR TTermR 3)) (us := [.slice p93 n94 c95]) rfl ⟨_, _, _, rfl, Sls.mono f96⟩ Cells.nil)) (fun hc98 => ?_)
      refine JL.fact (fun h => OwnL (LR TTermR 3) 26 1 h (.slice (some ⟨b97, 0, none⟩) 1 1) [y92] [(b97, row 26 [.slice p93 n94 c95])]) (OwnL.lit _ rfl hc98 rfl) (fun ho99 => ?_)
      refine JL.nil ⟨rfl, inferInstance, inferInstance, ?_⟩
      refine JD.one 5 (by kernel_rfl) ?_
      refine JX.effB rfl rfl trivial ?_
      refine o_appB (R := (LR TTermR 3)) rfl rfl (OwnL.mono f38) inferInstance hc98 e101 (fun p102 c103 L104 ho105 => ?_)
      refine JL.nil ⟨rfl, inferInstance, inferInstance, ?_⟩
      refine JD.calc 6 (by kernel_rfl) rfl trivial ss_subB (q_fa rfl) ?_
      refine JD.one 7 (by kernel_rfl) ?_
      refine JX.mut rfl rfl trivial ?_
      first | refine o_stc (vs := [.slice _ _ _]) (l' := [.int _ _, .int _ _, .slice _ _ _]) rfl rfl rfl rfl rfl inferInstance rfl rfl ?_ | refine o_stc (vs := [_]) (l' := [_, _, _]) rfl rfl rfl rfl rfl inferInstance rfl rfl ?_
      refine JL.nil ⟨rfl, ?_⟩
      refine JD.done (by kernel_rfl) ?_ _
      --
      refine J.region ?_
      first | refine o_q (q_mvv (v := .int _ _) rfl) ?_ | refine o_q (q_mv) ?_
      refine o_q (q_add rfl rfl (wi64 k48)) ?_
      first | refine o_q (q_asv (v := .int _ _) rfl) ?_ | refine o_q (q_as) ?_
      refine JL.nil ?_
      replace hm := inl_onward hm hk46
      exact ⟨⟨i41 + 1, l100, p102, l100.length, c103, L104⟩, rfl, ⟨rfl, rfl, rfl, rfl, trivial⟩, ⟨rfl, trivial⟩, ⟨(OwnL.mono ho105), Int.le_trans hle44 (Int.le_of_lt (Int.lt_succ _)), hm, inferInstance⟩, (muN c47), inferInstance⟩
    ·
      replace hm := forN_ge c47 hm
      unfold M.torsionref06_Mul_k1 at hm
      refine J.condF rfl (decide_eq_false c47) ?_
      refine J.exit ?_
      refine J.seq ?_
      refine J.region ?_
      refine o_q (q_lda (vs := [_, _, _]) rfl inferInstance ⟨rfl, rfl, rfl, trivial⟩) ?_
      first | refine o_stc (vs := [.int _ _, .int _ _, .slice _ _ _]) (l' := [.int _ _, .int _ _, .slice _ _ _]) rfl rfl rfl rfl rfl inferInstance rfl rfl ?_ | refine o_stc (vs := [_, _, _]) (l' := [_, _, _]) rfl rfl rfl rfl rfl inferInstance rfl rfl ?_
      first | refine o_q (q_asv (v := .int _ _) rfl) ?_ | refine o_q (q_as) ?_
      refine JL.nil ?_
      refine J.fzO (R := (LR TTermR 3)) (OwnL.mono f38) (fun h106 s107 f108 => ?_)
      refine J.ret ?_
      obtain rfl := Option.some.inj hm
      exact ret_ok (fn := Try.f36) rfl (.agg rfl inferInstance inferInstance (.tmp rfl .nil)) ⟨_, _, rfl, ⟨_, rfl, ⟨_, _, _, rfl, Sls.mono f108⟩⟩, rfl⟩
  ·
    replace hm := ite_F c32 hm
    refine J.condT rfl (decide_eq_true c32) ?_
    refine J.seq ?_
    refine J.region ?_
    first | refine o_q (q_bd [.int _ _, .int _ _, .slice _ _ _] rfl) ?_ | refine o_q (q_bd [_, _, _] rfl) ?_
    first | refine o_stc (vs := [.int _ _, .int _ _, .slice _ _ _]) (l' := [.int _ _, .int _ _, .slice _ _ _]) rfl rfl rfl rfl rfl inferInstance rfl rfl ?_ | refine o_stc (vs := [_, _, _]) (l' := [_, _, _]) rfl rfl rfl rfl rfl inferInstance rfl rfl ?_
    first | refine o_q (q_asv (v := .int _ _) rfl) ?_ | refine o_q (q_as) ?_
    refine JL.nil ?_
    refine J.ret ?_
    obtain rfl := Option.some.inj hm
    exact ret_ok (fn := Try.f36) rfl (.agg rfl inferInstance inferInstance (.tmp rfl .nil)) ⟨_, _, rfl, ⟨_, rfl, ⟨_, _, _, rfl, (Sls.nil (R := (LR TTermR 3)) (sz := 1) _)⟩⟩, rfl⟩
set_option maxHeartbeats 4000000 in
theorem sparse_From_fn {h : Heap} {x0 : TMat} {v0 : Value} (r0 : AggV TMatR h v0 x0) {r : TSparse} (hm : M.sparse_From x0 = some r) :
    Fn Try.prog 33 #[v0] h fun v h' => AggV TSparseR h' v r := by
  obtain ⟨_, rfl, p21, n22, c23, rfl, f24⟩ := r0
  refine Fn.intro (args := [_]) Try.func33 rfl rfl (Nat.le_of_ble_eq_true rfl) fun w => ?_
  unfold M.sparse_From at hm
  refine J.seq ?_
  refine J.region ?_
  first | refine o_bx (v := .agg ⟨[.int _ _, .int _ _, .slice _ _ _]⟩) rfl rfl (fun b25 => ?_) | refine o_bx rfl rfl (fun b25 => ?_)
  refine o_al (fun b26 => ?_)
  refine JL.nil ?_
  refine J.seq ?_
  refine J.region ?_
  refine o_q (q_fa rfl) ?_
  refine o_q (q_ld rfl inferInstance rfl) ?_
  refine o_q (q_fa rfl) ?_
  refine o_q (q_ld rfl inferInstance rfl) ?_
  first | refine o_q (q_bd [.int _ _, .int _ _, .slice _ _ _] rfl) ?_ | refine o_q (q_bd [_, _, _] rfl) ?_
  refine o_al (fun b27 => ?_)
  first | refine o_stc (vs := [.int _ _, .int _ _, .slice _ _ _]) (l' := [.int _ _, .int _ _, .slice _ _ _]) rfl rfl rfl rfl rfl inferInstance rfl rfl ?_ | refine o_stc (vs := [_, _, _]) (l' := [_, _, _]) rfl rfl rfl rfl rfl inferInstance rfl rfl ?_
  refine JL.nil ?_
  refine J.seq ?_
  refine J.seq ?_
  refine J.region ?_
  refine o_q (q_fa rfl) ?_
  refine o_q (q_ld rfl inferInstance rfl) ?_
  refine o_q (q_lenE (k := x0.A.length) rfl (Sls.len f24)) ?_
  first | refine o_q (q_mvv (v := .int _ _) rfl) ?_ | refine o_q (q_mv) ?_
  refine JL.nil ?_
  refine J.block ?_
  obtain ⟨hl36, hm⟩ := rngL_some hm
  refine J.loopK (α := Nat × (List (List TTerm)) × (Option Addr) × Nat × Nat × Own) (fun ⟨i35, v28, p29, n30, c31, L33⟩ h' L' => OwnL (LR TTermR 3) 26 1 h' (.slice p29 n30 c31) v28 L33 ∧ forL M.sparse_From_b2 (M.sparse_From_k2 x0) (List.drop i35 x0.A) i35 v28 = some r ∧ Sp (L33 ++ ([(b26, row 24 [.int .i64 0, .int .i64 0, .slice none 0 0]), (b27, row 24 [.int .i64 x0.Rows, .int .i64 x0.Cols, .slice p29 n30 c31])])) L') [(2, .pointer _), (3, .pointer _), (15, .slice _ _ _), (16, .int _ _)] ⟨rfl, rfl, rfl, rfl, trivial⟩ (fun ⟨i35, v28, p29, n30, c31, L33⟩ => [(17, .int .i64 (i35 : Int))]) (fun ⟨i35, v28, p29, n30, c31, L33⟩ => x0.A.length - i35) ⟨0, ([] : List (List TTerm)), none, 0, 0, []⟩ ⟨(OwnL.nil _), hm, inferInstance⟩ ⟨rfl, trivial⟩ ?_
  rintro ⟨i35, v28, p29, n30, c31, L33⟩ σq37 hq37 Lq37 sq37 ⟨f32, hm, hspq37⟩
  refine J.sp hspq37 ?_
  refine J.seq ?_
  refine J.region ?_
  refine o_q (q_lss rfl rfl) ?_
  refine JL.nil ?_
  refine J.seq ?_
  by_cases c41 : (i35 : Int) < (x0.A.length : Int)
  ·
    obtain ⟨x42, o39, hl43, hx44, hm, hk40⟩ := forL_cons c41 hm
    unfold M.sparse_From_b2 at hm
    refine J.condT rfl (decide_eq_true c41) ?_
    have k45 : -9223372036854775808 ≤ (i35 : Int) + 1 ∧ (i35 : Int) + 1 ≤ 9223372036854775807 := by omega
    refine J.skip ?_
    refine J.seq ?_
    refine J.block ?_
    refine J.seq ?_
    obtain ⟨b46, o47, rfl⟩ := Sls.op f24 hl43
    obtain ⟨us48, hc49, hR50⟩ := Sls.at f24 hx44
    obtain ⟨p51, n52, c53, rfl, f54⟩ := hR50
    refine J.region ?_
    refine o_q (q_ian rfl rfl rfl (by first | exact hl43 | (rw [Sls.len f24]; exact hl43))) ?_
    refine o_q (q_ldf rfl hc49) ?_
    first | refine o_q (q_asv (v := .slice _ _ _) rfl) ?_ | refine o_q (q_as) ?_
    refine JL.nil ?_
    refine J.seq ?_
    refine J.region ?_
    first | refine o_q (q_asv (v := .slice _ _ _) rfl) ?_ | refine o_q (q_as) ?_
    refine JL.nil ?_
    refine J.seq ?_
    refine J.seq ?_
    refine J.region ?_
    first | refine o_q (q_mvv (v := .slice _ _ _) rfl) ?_ | refine o_q (q_mv) ?_
    refine o_q (q_lenE (k := x42.length) rfl (Sls.len f54)) ?_
    first | refine o_q (q_mvv (v := .int _ _) rfl) ?_ | refine o_q (q_mv) ?_
    refine JL.nil ?_
    refine J.block ?_
    obtain ⟨hl63, hm⟩ := rngL_some hm
    refine J.loopK (α := Nat × (List TTerm) × (Option Addr) × Nat × Nat × Own) (fun ⟨i62, v55, p56, n57, c58, L60⟩ h' L' => OwnL TTermR 71 3 h' (.slice p56 n57 c58) v55 L60 ∧ forL M.sparse_From_b1 (M.sparse_From_k1 v28) (List.drop i62 x42) i62 v55 = some o39 ∧ Sp (L33 ++ (L60 ++ ([(b26, row 24 [.int .i64 0, .int .i64 0, .slice none 0 0]), (b27, row 24 [.int .i64 x0.Rows, .int .i64 x0.Cols, .slice p29 n30 c31])]))) L') [(2, .pointer _), (3, .pointer _), (15, .slice _ _ _), (16, .int _ _), (17, .int _ _), (21, .slice _ _ _), (22, .int _ _)] ⟨rfl, rfl, rfl, rfl, rfl, rfl, rfl, trivial⟩ (fun ⟨i62, v55, p56, n57, c58, L60⟩ => [(6, .slice p56 n57 c58), (23, .int .i64 (i62 : Int))]) (fun ⟨i62, v55, p56, n57, c58, L60⟩ => x42.length - i62) ⟨0, ([] : List TTerm), none, 0, 0, []⟩ ⟨(OwnL.nil _), hm, inferInstance⟩ ⟨rfl, rfl, trivial⟩ ?_
    rintro ⟨i62, v55, p56, n57, c58, L60⟩ σq64 hq64 Lq64 sq64 ⟨f59, hm, hspq64⟩
    refine J.sp hspq64 ?_
    refine J.seq ?_
    refine J.region ?_
    refine o_q (q_lss rfl rfl) ?_
    refine JL.nil ?_
    refine J.seq ?_
    by_cases c68 : (i62 : Int) < (x42.length : Int)
    ·
      obtain ⟨x69, o66, hl70, hx71, hm, hk67⟩ := forL_cons c68 hm
      unfold M.sparse_From_b1 at hm
      refine J.condT rfl (decide_eq_true c68) ?_
      have k72 : -9223372036854775808 ≤ (i62 : Int) + 1 ∧ (i62 : Int) + 1 ≤ 9223372036854775807 := by omega
      refine J.skip ?_
      refine J.seq ?_
      refine J.block ?_
      refine J.seq ?_
      obtain ⟨b73, o74, rfl⟩ := Sls.op f54 hl70
      obtain ⟨us75, hc76, hR77⟩ := Sls.at f54 hx71
      obtain ⟨g78, p79, n80, c81, rfl, f82⟩ := IntR.op hR77
      refine J.region ?_
      first | refine o_q (q_mvv (v := .int _ _) rfl) ?_ | refine o_q (q_mv) ?_
      refine o_q (q_ian rfl rfl rfl (by first | exact hl70 | (rw [Sls.len f54]; exact hl70))) ?_
      refine o_q (q_ldfa rfl hc76) ?_
      refine o_al (fun b83 => ?_)
      first | refine o_q (q_asv (v := .int _ _) rfl) ?_ | refine o_q (q_as) ?_
      first | refine o_stc (vs := [.bool _, .slice _ _ _]) (l' := [.bool _, .slice _ _ _]) rfl rfl rfl rfl rfl inferInstance rfl rfl ?_ | refine o_stc (vs := [_, _]) (l' := [_, _]) rfl rfl rfl rfl rfl inferInstance rfl rfl ?_
      refine JL.nil ?_
      refine J.seq ?_
      obtain ⟨y89, e88, hm⟩ := bnd_some hm
      refine J.region ?_
      refine o_q (q_lda (vs := [_, _]) rfl inferInstance ⟨rfl, rfl, trivial⟩) ?_
      refine o_call (sign_fn' (IntR.at (Mo.up f82)) e88) (fun v84 h85 s86 r87 => ?_)
      obtain rfl := (show _ = _ from r87)
      refine o_q (q_neq rfl rfl) ?_
      refine JL.nil ?_
      by_cases c90 : y89 = 0
      ·
        replace hm := ite_T c90 hm
        refine J.condF rfl (decide_eq_false (fun z => z c90)) ?_
        refine J.skip ?_
        refine J.region ?_
        refine o_q (q_add rfl rfl (wi64 k72)) ?_
        first | refine o_q (q_mvv (v := .int _ _) rfl) ?_ | refine o_q (q_mv) ?_
        refine JL.nil ?_
        replace hm := inl_onward hm hk67
        exact ⟨⟨i62 + 1, v55, p56, n57, c58, L60⟩, rfl, ⟨rfl, rfl, rfl, rfl, rfl, rfl, rfl, trivial⟩, ⟨rfl, rfl, trivial⟩, ⟨(OwnL.mono f59), hm, inferInstance⟩, (muL hl70), inferInstance⟩
      ·
        replace hm := ite_F c90 hm
        refine J.condT rfl (decide_eq_true c90) ?_
        obtain ⟨l94, e95, hm⟩ := bnd_some hm
        refine J.region ?_
        first | refine o_q (q_mvv (v := .slice _ _ _) rfl) ?_ | refine o_q (q_mv) ?_
        first | refine o_q (q_mvv (v := .int _ _) rfl) ?_ | refine o_q (q_mv) ?_
        refine o_q (q_lda (vs := [_, _]) rfl inferInstance ⟨rfl, rfl, trivial⟩) ?_
        first | refine o_q (q_bd [.int _ _, .bool _, .slice _ _ _] rfl) ?_ | refine o_q (q_bd [_, _, _] rfl) ?_
        first | refine o_bs [.int _ _, .bool _, .slice _ _ _] (by decide) rfl (fun b91 => ?_) | refine o_bs [_, _, _] (by decide) rfl (fun b91 => ?_)
        refine JL.fact (fun h => Cells TTermR 3 h [.int .i64 (i62 : Int), .bool g78, .slice p79 n80 c81] [(TTerm.mk (i62 : Int) x69)]) (show Cells TTermR 3 _ [.int .i64 (i62 : Int), .bool g78, .slice p79 n80 c81] [(TTerm.mk (i62 : Int) x69)] from (Cells.cons (R := TTermR) (us := [.int .i64 (i62 : Int), .bool g78, .slice p79 n80 c81]) rfl ⟨_, _, _, _, rfl, (Mo.up f82)⟩ Cells.nil)) (fun hc92 => ?_)
        refine JL.fact (fun h => OwnL TTermR 71 3 h (.slice (some ⟨b91, 0, none⟩) 1 1) [(TTerm.mk (i62 : Int) x69)] [(b91, row 71 [.int .i64 (i62 : Int), .bool g78, .slice p79 n80 c81])]) (OwnL.lit _ rfl hc92 rfl) (fun ho93 => ?_)
        refine o_appB (R := TTermR) rfl rfl (OwnL.mono f59) inferInstance hc92 e95 (fun p96 c97 L98 ho99 => ?_)
        first | refine o_q (q_asv (v := .slice _ _ _) rfl) ?_ | refine o_q (q_as) ?_
        refine JL.nil ?_
        refine J.region ?_
        refine o_q (q_add rfl rfl (wi64 k72)) ?_
        first | refine o_q (q_mvv (v := .int _ _) rfl) ?_ | refine o_q (q_mv) ?_
        refine JL.nil ?_
        replace hm := inl_onward hm hk67
        exact ⟨⟨i62 + 1, l94, p96, l94.length, c97, L98⟩, rfl, ⟨rfl, rfl, rfl, rfl, rfl, rfl, rfl, trivial⟩, ⟨rfl, rfl, trivial⟩, ⟨(OwnL.mono ho99), hm, inferInstance⟩, (muL hl70), inferInstance⟩
    ·
      replace hm := forL_nil c68 hm
      unfold M.sparse_From_k1 at hm
      refine J.condF rfl (decide_eq_false c68) ?_
      refine J.exit ?_
      refine J.fzO (R := TTermR) (OwnL.mono f59) (fun h100 s101 f102 => ?_)
      obtain ⟨l106, e107, hm⟩ := bnd_some hm
      refine J.region ?_
      refine o_q (q_fa rfl) ?_
      refine o_q (q_ld rfl inferInstance rfl) ?_
      first | refine o_q (q_mvv (v := .slice _ _ _) rfl) ?_ | refine o_q (q_mv) ?_
      first | refine o_bs [.slice _ _ _] (by decide) rfl (fun b103 => ?_) | refine o_bs [_] (by decide) rfl (fun b103 => ?_)
      refine JL.fact (fun h => Cells (LR TTermR 3) 1 h [.slice p56 n57 c58] [v55]) (show Cells (LR TTermR 3) 1 _ [.slice p56 n57 c58] [v55] from (Cells.cons (R := (LR TTermR 3)) (us := [.slice p56 n57 c58]) rfl ⟨_, _, _, rfl, Sls.mono f102⟩ Cells.nil)) (fun hc104 => ?_)
      refine JL.fact (fun h => OwnL (LR TTermR 3) 26 1 h (.slice (some ⟨b103, 0, none⟩) 1 1) [v55] [(b103, row 26 [.slice p56 n57 c58])]) (OwnL.lit _ rfl hc104 rfl) (fun ho105 => ?_)
      refine o_appB (R := (LR TTermR 3)) rfl rfl (OwnL.mono f32) inferInstance hc104 e107 (fun p108 c109 L110 ho111 => ?_)
      refine o_q (q_fa rfl) ?_
      first | refine o_stc (vs := [.slice _ _ _]) (l' := [.int _ _, .int _ _, .slice _ _ _]) rfl rfl rfl rfl rfl inferInstance rfl rfl ?_ | refine o_stc (vs := [_]) (l' := [_, _, _]) rfl rfl rfl rfl rfl inferInstance rfl rfl ?_
      refine JL.nil ?_
      refine J.region ?_
      refine o_q (q_add rfl rfl (wi64 k45)) ?_
      first | refine o_q (q_mvv (v := .int _ _) rfl) ?_ | refine o_q (q_mv) ?_
      refine JL.nil ?_
      replace hm := inl_onward hm hk40
      exact ⟨⟨i35 + 1, l106, p108, l106.length, c109, L110⟩, rfl, ⟨rfl, rfl, rfl, rfl, trivial⟩, ⟨rfl, trivial⟩, ⟨(OwnL.mono ho111), hm, inferInstance⟩, (muL hl43), inferInstance⟩
  ·
    replace hm := forL_nil c41 hm
    unfold M.sparse_From_k2 at hm
    refine J.condF rfl (decide_eq_false c41) ?_
    refine J.exit ?_
    refine J.seq ?_
    refine J.region ?_
    refine o_q (q_lda (vs := [_, _, _]) rfl inferInstance ⟨rfl, rfl, rfl, trivial⟩) ?_
    first | refine o_stc (vs := [.int _ _, .int _ _, .slice _ _ _]) (l' := [.int _ _, .int _ _, .slice _ _ _]) rfl rfl rfl rfl rfl inferInstance rfl rfl ?_ | refine o_stc (vs := [_, _, _]) (l' := [_, _, _]) rfl rfl rfl rfl rfl inferInstance rfl rfl ?_
    refine JL.nil ?_
    refine J.fzO (R := (LR TTermR 3)) (OwnL.mono f32) (fun h112 s113 f114 => ?_)
    refine J.ret ?_
    obtain rfl := Option.some.inj hm
    exact ret_ok (fn := Try.f33) rfl (.agg rfl inferInstance inferInstance .nil) ⟨_, rfl, ⟨_, _, _, rfl, Sls.mono f114⟩⟩
set_option maxHeartbeats 4000000 in
theorem sparse_same_fn {h : Heap} {x0 : TTerm} {x1 : TTerm} {v0 : Value} {v1 : Value} (r0 : AggV TTermR h v0 x0) (r1 : AggV TTermR h v1 x1) {r : Bool} (hm : M.sparse_same x0 x1 = some r) :
    Fn Try.prog 63 #[v0, v1] h fun v h' => v = .bool r := by
  obtain ⟨_, rfl, g21, p22, n23, c24, rfl, f25⟩ := r0
  obtain ⟨_, rfl, g26, p27, n28, c29, rfl, f30⟩ := r1
  refine Fn.intro (args := [_, _]) Try.func63 rfl rfl (Nat.le_of_ble_eq_true rfl) fun w => ?_
  unfold M.sparse_same at hm
  refine J.seq ?_
  refine J.region ?_
  first | refine o_bx (v := .agg ⟨[.int _ _, .bool _, .slice _ _ _]⟩) rfl rfl (fun b31 => ?_) | refine o_bx rfl rfl (fun b31 => ?_)
  first | refine o_bx (v := .agg ⟨[.int _ _, .bool _, .slice _ _ _]⟩) rfl rfl (fun b32 => ?_) | refine o_bx rfl rfl (fun b32 => ?_)
  first | refine o_q (q_asv (v := .bool _) rfl) ?_ | refine o_q (q_as) ?_
  refine JL.nil ?_
  refine J.seq ?_
  by_cases c33 : x0.Col = x1.Col
  ·
    replace hm := ite_T c33 hm
    obtain ⟨y39, e38, hm⟩ := bnd_some hm
    refine J.region ?_
    refine o_q (q_fa rfl) ?_
    refine o_q (q_ld rfl inferInstance rfl) ?_
    refine o_q (q_fa rfl) ?_
    refine o_q (q_ld rfl inferInstance rfl) ?_
    refine o_q (q_eql rfl rfl) ?_
    first | refine o_q (q_mvv (v := .bool _) rfl) ?_ | refine o_q (q_mv) ?_
    refine JL.guardT rfl rfl (decide_eq_true c33) ?_
    refine o_q (q_fa rfl) ?_
    refine JL.guardT rfl rfl (decide_eq_true c33) ?_
    refine o_q (q_lda (vs := [_, _]) rfl inferInstance ⟨rfl, rfl, trivial⟩) ?_
    refine JL.guardT rfl rfl (decide_eq_true c33) ?_
    refine o_q (q_fa rfl) ?_
    refine JL.guardT rfl rfl (decide_eq_true c33) ?_
    refine o_q (q_lda (vs := [_, _]) rfl inferInstance ⟨rfl, rfl, trivial⟩) ?_
    refine JL.guardT rfl rfl (decide_eq_true c33) ?_
    refine o_call (cmp_fn' (IntR.at (Mo.up f25)) (IntR.at (Mo.up f30)) e38) (fun v34 h35 s36 r37 => ?_)
    obtain rfl := (show _ = _ from r37)
    refine JL.guardT rfl rfl (decide_eq_true c33) ?_
    refine o_q (q_eql rfl rfl) ?_
    first | refine o_q (q_pickTv (v := .bool _) rfl (decide_eq_true c33) rfl) ?_ | refine o_q (q_pickT rfl (decide_eq_true c33)) ?_
    first | refine o_q (q_asv (v := .bool _) rfl) ?_ | refine o_q (q_as) ?_
    refine JL.nil ?_
    refine J.ret ?_
    obtain rfl := Option.some.inj hm
    exact ret_ok (fn := Try.f63) rfl (.tmp rfl .nil) rfl
  ·
    replace hm := ite_F c33 hm
    refine J.region ?_
    refine o_q (q_fa rfl) ?_
    refine o_q (q_ld rfl inferInstance rfl) ?_
    refine o_q (q_fa rfl) ?_
    refine o_q (q_ld rfl inferInstance rfl) ?_
    refine o_q (q_eql rfl rfl) ?_
    first | refine o_q (q_mvv (v := .bool _) rfl) ?_ | refine o_q (q_mv) ?_
    refine JL.guardF rfl rfl (decide_eq_false c33) rfl ?_
    refine JL.guardF rfl rfl (decide_eq_false c33) rfl ?_
    refine JL.guardF rfl rfl (decide_eq_false c33) rfl ?_
    refine JL.guardF rfl rfl (decide_eq_false c33) rfl ?_
    refine JL.guardF rfl rfl (decide_eq_false c33) rfl ?_
    refine JL.guardF rfl rfl (decide_eq_false c33) rfl ?_
    first | refine o_q (q_pickFv (v := .bool _) rfl (decide_eq_false c33) rfl) ?_ | refine o_q (q_pickF rfl (decide_eq_false c33)) ?_
    first | refine o_q (q_asv (v := .bool _) rfl) ?_ | refine o_q (q_as) ?_
    refine JL.nil ?_
    refine J.ret ?_
    obtain rfl := Option.some.inj hm
    exact ret_ok (fn := Try.f63) rfl (.tmp rfl .nil) rfl
set_option maxHeartbeats 4000000 in
theorem slices_EqualFunc_LTerm_LTerm_Term_Term_fn {h : Heap} {x0 : List TTerm} {x1 : List TTerm} {x2 : TTerm → TTerm → Option Bool} {v0 : Value} {v1 : Value} {g2_ : FuncId} {cap2_ : List Value} [Ent Try.prog g2_] (r0 : Sls TTermR 3 h v0 x0) (r1 : Sls TTermR 3 h v1 x1) (r2 : ∀ {h' : Heap}, Ext h h' → ∀ (a0 : TTerm) (a1 : TTerm) (w0 : Value) (w1 : Value), AggV TTermR h' w0 a0 → AggV TTermR h' w1 a1 → ∀ c, x2 a0 a1 = some c → Fn Try.prog g2_ (List.toArray ([] ++ [w0, w1] ++ cap2_)) h' (fun v h'' => v = .bool c)) {r : Bool} (hm : M.slices_EqualFunc_LTerm_LTerm_Term_Term x0 x1 x2 = some r) :
    Fn Try.prog 62 #[v0, v1, .func (.func g2_) ⟨[]⟩ ⟨cap2_⟩] h fun v h' => v = .bool r := by
  obtain ⟨p21, n22, c23, rfl, f24⟩ := Sls.op3 r0
  obtain ⟨p25, n26, c27, rfl, f28⟩ := Sls.op3 r1
  refine Fn.intro (args := [_, _, _]) Try.func62 rfl rfl (Nat.le_of_ble_eq_true rfl) fun w => ?_
  unfold M.slices_EqualFunc_LTerm_LTerm_Term_Term at hm
  refine J.seq ?_
  refine J.region ?_
  first | refine o_q (q_asv (v := .bool _) rfl) ?_ | refine o_q (q_as) ?_
  refine JL.nil ?_
  refine J.seq ?_
  refine J.seq ?_
  refine J.region ?_
  first | refine o_q (q_mvv (v := .slice _ _ _) rfl) ?_ | refine o_q (q_mv) ?_
  refine o_q (q_lenE (k := x0.length) rfl (Sls.len f24)) ?_
  first | refine o_q (q_mvv (v := .slice _ _ _) rfl) ?_ | refine o_q (q_mv) ?_
  refine o_q (q_lenE (k := x1.length) rfl (Sls.len f28)) ?_
  refine o_q (q_neq rfl rfl) ?_
  refine JL.nil ?_
  by_cases c29 : (x0.length : Int) = (x1.length : Int)
  ·
    replace hm := ite_T c29 hm
    refine J.condF rfl (decide_eq_false (fun z => z c29)) ?_
    refine J.skip ?_
    refine J.seq ?_
    refine J.seq ?_
    refine J.region ?_
    first | refine o_q (q_mvv (v := .slice _ _ _) rfl) ?_ | refine o_q (q_mv) ?_
    refine o_q (q_lenE (k := x0.length) rfl (Sls.len f24)) ?_
    first | refine o_q (q_mvv (v := .int _ _) rfl) ?_ | refine o_q (q_mv) ?_
    refine JL.nil ?_
    refine J.block ?_
    obtain ⟨hl32, hm⟩ := rngL_some hm
    refine J.loopK (α := Nat) (fun i31 h' L' => forL (M.slices_EqualFunc_LTerm_LTerm_Term_Term_b1 x1 x2) M.slices_EqualFunc_LTerm_LTerm_Term_Term_k1 (List.drop i31 x0) i31 () = some r ∧ Sp ([]) L') [(1, .slice _ _ _), (2, .func _ _ _), (15, .slice _ _ _), (16, .int _ _)] ⟨rfl, rfl, rfl, rfl, trivial⟩ (fun i31 => [(17, .int .i64 (i31 : Int))]) (fun i31 => x0.length - i31) 0 ⟨hm, inferInstance⟩ ⟨rfl, trivial⟩ ?_
    rintro i31 σq33 hq33 Lq33 sq33 ⟨hm, hspq33⟩
    refine J.sp hspq33 ?_
    refine J.seq ?_
    refine J.region ?_
    refine o_q (q_lss rfl rfl) ?_
    refine JL.nil ?_
    refine J.seq ?_
    by_cases c37 : (i31 : Int) < (x0.length : Int)
    ·
      obtain ⟨x38, o35, hl39, hx40, hm, hk36⟩ := forL_cons c37 hm
      unfold M.slices_EqualFunc_LTerm_LTerm_Term_Term_b1 at hm
      refine J.condT rfl (decide_eq_true c37) ?_
      have k41 : -9223372036854775808 ≤ (i31 : Int) + 1 ∧ (i31 : Int) + 1 ≤ 9223372036854775807 := by omega
      refine J.skip ?_
      refine J.seq ?_
      refine J.block ?_
      refine J.seq ?_
      obtain ⟨b42, o43, rfl⟩ := Sls.op f24 hl39
      obtain ⟨us44, hc45, hR46⟩ := Sls.at f24 hx40
      obtain ⟨g47, p48, n49, c50, rfl, f51⟩ := hR46
      refine J.region ?_
      first | refine o_q (q_mvv (v := .int _ _) rfl) ?_ | refine o_q (q_mv) ?_
      refine o_q (q_ian rfl rfl rfl (by first | exact hl39 | (rw [Sls.len f24]; exact hl39))) ?_
      refine o_q (q_ldfa rfl hc45) ?_
      refine o_al (fun b52 => ?_)
      first | refine o_q (q_asv (v := .int _ _) rfl) ?_ | refine o_q (q_as) ?_
      first | refine o_stc (vs := [.int _ _, .bool _, .slice _ _ _]) (l' := [.int _ _, .bool _, .slice _ _ _]) rfl rfl rfl rfl rfl inferInstance rfl rfl ?_ | refine o_stc (vs := [_, _, _]) (l' := [_, _, _]) rfl rfl rfl rfl rfl inferInstance rfl rfl ?_
      refine JL.nil ?_
      refine J.seq ?_
      obtain ⟨i54, x53, hi55, hl56, hx57, hm⟩ := nth_some hm
      obtain ⟨b58, o59, rfl⟩ := Sls.op f28 hl56
      obtain ⟨us60, hc61, hR62⟩ := Sls.at f28 hx57
      obtain ⟨g63, p64, n65, c66, rfl, f67⟩ := hR62
      refine J.region ?_
      first | refine o_q (q_mvv (v := .slice _ _ _) rfl) ?_ | refine o_q (q_mv) ?_
      first | refine o_q (q_mvv (v := .int _ _) rfl) ?_ | refine o_q (q_mv) ?_
      refine o_q (q_ian rfl rfl hi55 (by first | exact hl56 | (rw [Sls.len f28]; exact hl56))) ?_
      refine o_q (q_ldfa rfl hc61) ?_
      refine o_al (fun b68 => ?_)
      first | refine o_stc (vs := [.int _ _, .bool _, .slice _ _ _]) (l' := [.int _ _, .bool _, .slice _ _ _]) rfl rfl rfl rfl rfl inferInstance rfl rfl ?_ | refine o_stc (vs := [_, _, _]) (l' := [_, _, _]) rfl rfl rfl rfl rfl inferInstance rfl rfl ?_
      refine JL.nil ?_
      refine J.seq ?_
      obtain ⟨y74, e73, hm⟩ := bnd_some hm
      refine J.region ?_
      first | refine o_q (q_mvv (v := .func _ _ _) rfl) ?_ | refine o_q (q_mv) ?_
      refine o_q (q_lda (vs := [_, _, _]) rfl inferInstance ⟨rfl, rfl, rfl, trivial⟩) ?_
      refine o_q (q_lda (vs := [_, _, _]) rfl inferInstance ⟨rfl, rfl, rfl, trivial⟩) ?_
      refine o_callv (f := g2_) rfl (r2 inferInstance _ _ _ _ ⟨_, rfl, ⟨_, _, _, _, rfl, (Mo.up f51)⟩⟩ ⟨_, rfl, ⟨_, _, _, _, rfl, (Mo.up f67)⟩⟩ _ e73) (fun v69 h70 s71 r72 => ?_)
      obtain rfl := (show _ = _ from r72)
      refine o_q (q_not rfl) ?_
      refine JL.nil ?_
      by_cases c75 : y74 = true
      ·
        replace hm := ite_T c75 hm
        refine J.condF rfl (congrArg Bool.not (show y74 = true from c75)) ?_
        refine J.skip ?_
        refine J.region ?_
        refine o_q (q_add rfl rfl (wi64 k41)) ?_
        first | refine o_q (q_mvv (v := .int _ _) rfl) ?_ | refine o_q (q_mv) ?_
        refine JL.nil ?_
        replace hm := inl_onward hm hk36
        exact ⟨(i31 + 1), rfl, ⟨rfl, rfl, rfl, rfl, trivial⟩, ⟨rfl, trivial⟩, ⟨hm, inferInstance⟩, (muL hl39), inferInstance⟩
      ·
        replace hm := ite_F c75 hm
        refine J.condT rfl (congrArg Bool.not (show y74 = false from (eq_false_of_ne_true c75))) ?_
        refine J.seq ?_
        refine J.region ?_
        first | refine o_q (q_asv (v := .bool _) rfl) ?_ | refine o_q (q_as) ?_
        refine JL.nil ?_
        replace hm := inr_onward hm hk36
        refine J.ret ?_
        obtain rfl := Option.some.inj hm
        exact ret_ok (fn := Try.f62) rfl (.tmp rfl .nil) rfl
    ·
      replace hm := forL_nil c37 hm
      unfold M.slices_EqualFunc_LTerm_LTerm_Term_Term_k1 at hm
      refine J.condF rfl (decide_eq_false c37) ?_
      refine J.exit ?_
      refine J.seq ?_
      refine J.region ?_
      first | refine o_q (q_asv (v := .bool _) rfl) ?_ | refine o_q (q_as) ?_
      refine JL.nil ?_
      refine J.ret ?_
      obtain rfl := Option.some.inj hm
      exact ret_ok (fn := Try.f62) rfl (.tmp rfl .nil) rfl
  ·
    replace hm := ite_F c29 hm
    refine J.condT rfl (decide_eq_true c29) ?_
    refine J.seq ?_
    refine J.region ?_
    first | refine o_q (q_asv (v := .bool _) rfl) ?_ | refine o_q (q_as) ?_
    refine JL.nil ?_
    refine J.ret ?_
    obtain rfl := Option.some.inj hm
    exact ret_ok (fn := Try.f62) rfl (.tmp rfl .nil) rfl
set_option maxHeartbeats 4000000 in
theorem sparse_Equal_1_fn {h : Heap} {x0 : List TTerm} {x1 : List TTerm} {v0 : Value} {v1 : Value} (r0 : Sls TTermR 3 h v0 x0) (r1 : Sls TTermR 3 h v1 x1) {r : Bool} (hm : M.sparse_Equal_1 x0 x1 = some r) :
    Fn Try.prog 61 #[v0, v1] h fun v h' => v = .bool r := by
  obtain ⟨p21, n22, c23, rfl, f24⟩ := Sls.op3 r0
  obtain ⟨p25, n26, c27, rfl, f28⟩ := Sls.op3 r1
  refine Fn.intro (args := [_, _]) Try.func61 rfl rfl (Nat.le_of_ble_eq_true rfl) fun w => ?_
  unfold M.sparse_Equal_1 at hm
  refine J.seq ?_
  refine J.region ?_
  first | refine o_q (q_asv (v := .bool _) rfl) ?_ | refine o_q (q_as) ?_
  refine JL.nil ?_
  refine J.seq ?_
  obtain ⟨y34, e33, hm⟩ := bnd_some hm
  refine J.region ?_
  first | refine o_q (q_mvv (v := .slice _ _ _) rfl) ?_ | refine o_q (q_mv) ?_
  first | refine o_q (q_mvv (v := .slice _ _ _) rfl) ?_ | refine o_q (q_mv) ?_
  refine o_call (slices_EqualFunc_LTerm_LTerm_Term_Term_fn (Sls.mono f24) (Sls.mono f28) (fun e a0 a1 w0 w1 q0 q1 c hc => by exact sparse_same_fn q0 q1 hc) e33) (fun v29 h30 s31 r32 => ?_)
  obtain rfl := (show _ = _ from r32)
  first | refine o_q (q_asv (v := .bool _) rfl) ?_ | refine o_q (q_as) ?_
  refine JL.nil ?_
  refine J.ret ?_
  obtain rfl := Option.some.inj hm
  exact ret_ok (fn := Try.f61) rfl (.tmp rfl .nil) rfl
set_option maxHeartbeats 4000000 in
theorem slices_EqualFunc_LLTerm_LLTerm_LTerm_LTerm_fn {h : Heap} {x0 : List (List TTerm)} {x1 : List (List TTerm)} {x2 : (List TTerm) → (List TTerm) → Option Bool} {v0 : Value} {v1 : Value} {g2_ : FuncId} {cap2_ : List Value} [Ent Try.prog g2_] (r0 : Sls (LR TTermR 3) 1 h v0 x0) (r1 : Sls (LR TTermR 3) 1 h v1 x1) (r2 : ∀ {h' : Heap}, Ext h h' → ∀ (a0 : List TTerm) (a1 : List TTerm) (w0 : Value) (w1 : Value), Sls TTermR 3 h' w0 a0 → Sls TTermR 3 h' w1 a1 → ∀ c, x2 a0 a1 = some c → Fn Try.prog g2_ (List.toArray ([] ++ [w0, w1] ++ cap2_)) h' (fun v h'' => v = .bool c)) {r : Bool} (hm : M.slices_EqualFunc_LLTerm_LLTerm_LTerm_LTerm x0 x1 x2 = some r) :
    Fn Try.prog 64 #[v0, v1, .func (.func g2_) ⟨[]⟩ ⟨cap2_⟩] h fun v h' => v = .bool r := by
  obtain ⟨p21, n22, c23, rfl, f24⟩ := Sls.op3 r0
  obtain ⟨p25, n26, c27, rfl, f28⟩ := Sls.op3 r1
  refine Fn.intro (args := [_, _, _]) Try.func64 rfl rfl (Nat.le_of_ble_eq_true rfl) fun w => ?_
  unfold M.slices_EqualFunc_LLTerm_LLTerm_LTerm_LTerm at hm
  refine J.seq ?_
  refine J.region ?_
  first | refine o_q (q_asv (v := .bool _) rfl) ?_ | refine o_q (q_as) ?_
  refine JL.nil ?_
  refine J.seq ?_
  refine J.seq ?_
  refine J.region ?_
  first | refine o_q (q_mvv (v := .slice _ _ _) rfl) ?_ | refine o_q (q_mv) ?_
  refine o_q (q_lenE (k := x0.length) rfl (Sls.len f24)) ?_
  first | refine o_q (q_mvv (v := .slice _ _ _) rfl) ?_ | refine o_q (q_mv) ?_
  refine o_q (q_lenE (k := x1.length) rfl (Sls.len f28)) ?_
  refine o_q (q_neq rfl rfl) ?_
  refine JL.nil ?_
  by_cases c29 : (x0.length : Int) = (x1.length : Int)
  ·
    replace hm := ite_T c29 hm
    refine J.condF rfl (decide_eq_false (fun z => z c29)) ?_
    refine J.skip ?_
    refine J.seq ?_
    refine J.seq ?_
    refine J.region ?_
    first | refine o_q (q_mvv (v := .slice _ _ _) rfl) ?_ | refine o_q (q_mv) ?_
    refine o_q (q_lenE (k := x0.length) rfl (Sls.len f24)) ?_
    first | refine o_q (q_mvv (v := .int _ _) rfl) ?_ | refine o_q (q_mv) ?_
    refine JL.nil ?_
    refine J.block ?_
    obtain ⟨hl32, hm⟩ := rngL_some hm
    refine J.loopK (α := Nat) (fun i31 h' L' => forL (M.slices_EqualFunc_LLTerm_LLTerm_LTerm_LTerm_b1 x1 x2) M.slices_EqualFunc_LLTerm_LLTerm_LTerm_LTerm_k1 (List.drop i31 x0) i31 () = some r ∧ Sp ([]) L') [(1, .slice _ _ _), (2, .func _ _ _), (15, .slice _ _ _), (16, .int _ _)] ⟨rfl, rfl, rfl, rfl, trivial⟩ (fun i31 => [(17, .int .i64 (i31 : Int))]) (fun i31 => x0.length - i31) 0 ⟨hm, inferInstance⟩ ⟨rfl, trivial⟩ ?_
    rintro i31 σq33 hq33 Lq33 sq33 ⟨hm, hspq33⟩
    refine J.sp hspq33 ?_
    refine J.seq ?_
    refine J.region ?_
    refine o_q (q_lss rfl rfl) ?_
    refine JL.nil ?_
    refine J.seq ?_
    by_cases c37 : (i31 : Int) < (x0.length : Int)
    ·
      obtain ⟨x38, o35, hl39, hx40, hm, hk36⟩ := forL_cons c37 hm
      unfold M.slices_EqualFunc_LLTerm_LLTerm_LTerm_LTerm_b1 at hm
      refine J.condT rfl (decide_eq_true c37) ?_
      have k41 : -9223372036854775808 ≤ (i31 : Int) + 1 ∧ (i31 : Int) + 1 ≤ 9223372036854775807 := by omega
      refine J.skip ?_
      refine J.seq ?_
      refine J.block ?_
      refine J.seq ?_
      obtain ⟨b42, o43, rfl⟩ := Sls.op f24 hl39
      obtain ⟨us44, hc45, hR46⟩ := Sls.at f24 hx40
      obtain ⟨p47, n48, c49, rfl, f50⟩ := hR46
      refine J.region ?_
      first | refine o_q (q_mvv (v := .int _ _) rfl) ?_ | refine o_q (q_mv) ?_
      refine o_q (q_ian rfl rfl rfl (by first | exact hl39 | (rw [Sls.len f24]; exact hl39))) ?_
      refine o_q (q_ldf rfl hc45) ?_
      first | refine o_q (q_asv (v := .int _ _) rfl) ?_ | refine o_q (q_as) ?_
      first | refine o_q (q_asv (v := .slice _ _ _) rfl) ?_ | refine o_q (q_as) ?_
      refine JL.nil ?_
      refine J.seq ?_
      obtain ⟨i52, x51, hi53, hl54, hx55, hm⟩ := nth_some hm
      obtain ⟨b56, o57, rfl⟩ := Sls.op f28 hl54
      obtain ⟨us58, hc59, hR60⟩ := Sls.at f28 hx55
      obtain ⟨p61, n62, c63, rfl, f64⟩ := hR60
      refine J.region ?_
      first | refine o_q (q_mvv (v := .slice _ _ _) rfl) ?_ | refine o_q (q_mv) ?_
      first | refine o_q (q_mvv (v := .int _ _) rfl) ?_ | refine o_q (q_mv) ?_
      refine o_q (q_ian rfl rfl hi53 (by first | exact hl54 | (rw [Sls.len f28]; exact hl54))) ?_
      refine o_q (q_ldf rfl hc59) ?_
      first | refine o_q (q_asv (v := .slice _ _ _) rfl) ?_ | refine o_q (q_as) ?_
      refine JL.nil ?_
      refine J.seq ?_
      obtain ⟨y70, e69, hm⟩ := bnd_some hm
      refine J.region ?_
      first | refine o_q (q_mvv (v := .func _ _ _) rfl) ?_ | refine o_q (q_mv) ?_
      first | refine o_q (q_mvv (v := .slice _ _ _) rfl) ?_ | refine o_q (q_mv) ?_
      first | refine o_q (q_mvv (v := .slice _ _ _) rfl) ?_ | refine o_q (q_mv) ?_
      refine o_callv (f := g2_) rfl (r2 inferInstance _ _ _ _ (Sls.mono f50) (Sls.mono f64) _ e69) (fun v65 h66 s67 r68 => ?_)
      obtain rfl := (show _ = _ from r68)
      refine o_q (q_not rfl) ?_
      refine JL.nil ?_
      by_cases c71 : y70 = true
      ·
        replace hm := ite_T c71 hm
        refine J.condF rfl (congrArg Bool.not (show y70 = true from c71)) ?_
        refine J.skip ?_
        refine J.region ?_
        refine o_q (q_add rfl rfl (wi64 k41)) ?_
        first | refine o_q (q_mvv (v := .int _ _) rfl) ?_ | refine o_q (q_mv) ?_
        refine JL.nil ?_
        replace hm := inl_onward hm hk36
        exact ⟨(i31 + 1), rfl, ⟨rfl, rfl, rfl, rfl, trivial⟩, ⟨rfl, trivial⟩, ⟨hm, inferInstance⟩, (muL hl39), inferInstance⟩
      ·
        replace hm := ite_F c71 hm
        refine J.condT rfl (congrArg Bool.not (show y70 = false from (eq_false_of_ne_true c71))) ?_
        refine J.seq ?_
        refine J.region ?_
        first | refine o_q (q_asv (v := .bool _) rfl) ?_ | refine o_q (q_as) ?_
        refine JL.nil ?_
        replace hm := inr_onward hm hk36
        refine J.ret ?_
        obtain rfl := Option.some.inj hm
        exact ret_ok (fn := Try.f64) rfl (.tmp rfl .nil) rfl
    ·
      replace hm := forL_nil c37 hm
      unfold M.slices_EqualFunc_LLTerm_LLTerm_LTerm_LTerm_k1 at hm
      refine J.condF rfl (decide_eq_false c37) ?_
      refine J.exit ?_
      refine J.seq ?_
      refine J.region ?_
      first | refine o_q (q_asv (v := .bool _) rfl) ?_ | refine o_q (q_as) ?_
      refine JL.nil ?_
      refine J.ret ?_
      obtain rfl := Option.some.inj hm
      exact ret_ok (fn := Try.f64) rfl (.tmp rfl .nil) rfl
  ·
    replace hm := ite_F c29 hm
    refine J.condT rfl (decide_eq_true c29) ?_
    refine J.seq ?_
    refine J.region ?_
    first | refine o_q (q_asv (v := .bool _) rfl) ?_ | refine o_q (q_as) ?_
    refine JL.nil ?_
    refine J.ret ?_
    obtain rfl := Option.some.inj hm
    exact ret_ok (fn := Try.f64) rfl (.tmp rfl .nil) rfl
set_option maxHeartbeats 4000000 in
theorem sparse_Equal_fn {h : Heap} {x0 : TSparse} {x1 : TSparse} {v0 : Value} {v1 : Value} (r0 : AggV TSparseR h v0 x0) (r1 : AggV TSparseR h v1 x1) {r : Bool} (hm : M.sparse_Equal x0 x1 = some r) :
    Fn Try.prog 42 #[v0, v1] h fun v h' => v = .bool r := by
  obtain ⟨_, rfl, p21, n22, c23, rfl, f24⟩ := r0
  obtain ⟨_, rfl, p25, n26, c27, rfl, f28⟩ := r1
  refine Fn.intro (args := [_, _]) Try.func42 rfl rfl (Nat.le_of_ble_eq_true rfl) fun w => ?_
  unfold M.sparse_Equal at hm
  refine J.seq ?_
  refine J.region ?_
  first | refine o_bx (v := .agg ⟨[.int _ _, .int _ _, .slice _ _ _]⟩) rfl rfl (fun b29 => ?_) | refine o_bx rfl rfl (fun b29 => ?_)
  first | refine o_bx (v := .agg ⟨[.int _ _, .int _ _, .slice _ _ _]⟩) rfl rfl (fun b30 => ?_) | refine o_bx rfl rfl (fun b30 => ?_)
  first | refine o_q (q_asv (v := .bool _) rfl) ?_ | refine o_q (q_as) ?_
  refine JL.nil ?_
  refine J.seq ?_
  refine J.region ?_
  first | refine o_q (q_asv (v := .func _ _ _) rfl) ?_ | refine o_q (q_as) ?_
  refine JL.nil ?_
  refine J.seq ?_
  by_cases c31 : x0.Rows = x1.Rows
  ·
    replace hm := ite_T c31 hm
    by_cases c32 : x0.Cols = x1.Cols
    ·
      replace hm := ite_T c32 hm
      obtain ⟨y38, e37, hm⟩ := bnd_some hm
      refine J.region ?_
      refine o_q (q_fa rfl) ?_
      refine o_q (q_ld rfl inferInstance rfl) ?_
      refine o_q (q_fa rfl) ?_
      refine o_q (q_ld rfl inferInstance rfl) ?_
      refine o_q (q_eql rfl rfl) ?_
      first | refine o_q (q_mvv (v := .bool _) rfl) ?_ | refine o_q (q_mv) ?_
      refine JL.guardT rfl rfl (decide_eq_true c31) ?_
      refine o_q (q_fa rfl) ?_
      refine JL.guardT rfl rfl (decide_eq_true c31) ?_
      refine o_q (q_ld rfl inferInstance rfl) ?_
      refine JL.guardT rfl rfl (decide_eq_true c31) ?_
      refine o_q (q_fa rfl) ?_
      refine JL.guardT rfl rfl (decide_eq_true c31) ?_
      refine o_q (q_ld rfl inferInstance rfl) ?_
      refine JL.guardT rfl rfl (decide_eq_true c31) ?_
      refine o_q (q_eql rfl rfl) ?_
      first | refine o_q (q_pickTv (v := .bool _) rfl (decide_eq_true c31) rfl) ?_ | refine o_q (q_pickT rfl (decide_eq_true c31)) ?_
      first | refine o_q (q_mvv (v := .bool _) rfl) ?_ | refine o_q (q_mv) ?_
      refine JL.guardT rfl rfl (decide_eq_true c32) ?_
      refine o_q (q_fa rfl) ?_
      refine JL.guardT rfl rfl (decide_eq_true c32) ?_
      refine o_q (q_ld rfl inferInstance rfl) ?_
      refine JL.guardT rfl rfl (decide_eq_true c32) ?_
      refine o_q (q_fa rfl) ?_
      refine JL.guardT rfl rfl (decide_eq_true c32) ?_
      refine o_q (q_ld rfl inferInstance rfl) ?_
      refine JL.guardT rfl rfl (decide_eq_true c32) ?_
      first | refine o_q (q_mvv (v := .func _ _ _) rfl) ?_ | refine o_q (q_mv) ?_
      refine JL.guardT rfl rfl (decide_eq_true c32) ?_
      refine o_call (slices_EqualFunc_LLTerm_LLTerm_LTerm_LTerm_fn (Sls.mono f24) (Sls.mono f28) (fun e a0 a1 w0 w1 q0 q1 c hc => by exact sparse_Equal_1_fn q0 q1 hc) e37) (fun v33 h34 s35 r36 => ?_)
      obtain rfl := (show _ = _ from r36)
      first | refine o_q (q_pickTv (v := .bool _) rfl (decide_eq_true c32) rfl) ?_ | refine o_q (q_pickT rfl (decide_eq_true c32)) ?_
      first | refine o_q (q_asv (v := .bool _) rfl) ?_ | refine o_q (q_as) ?_
      refine JL.nil ?_
      refine J.ret ?_
      obtain rfl := Option.some.inj hm
      exact ret_ok (fn := Try.f42) rfl (.tmp rfl .nil) rfl
    ·
      replace hm := ite_F c32 hm
      refine J.region ?_
      refine o_q (q_fa rfl) ?_
      refine o_q (q_ld rfl inferInstance rfl) ?_
      refine o_q (q_fa rfl) ?_
      refine o_q (q_ld rfl inferInstance rfl) ?_
      refine o_q (q_eql rfl rfl) ?_
      first | refine o_q (q_mvv (v := .bool _) rfl) ?_ | refine o_q (q_mv) ?_
      refine JL.guardT rfl rfl (decide_eq_true c31) ?_
      refine o_q (q_fa rfl) ?_
      refine JL.guardT rfl rfl (decide_eq_true c31) ?_
      refine o_q (q_ld rfl inferInstance rfl) ?_
      refine JL.guardT rfl rfl (decide_eq_true c31) ?_
      refine o_q (q_fa rfl) ?_
      refine JL.guardT rfl rfl (decide_eq_true c31) ?_
      refine o_q (q_ld rfl inferInstance rfl) ?_
      refine JL.guardT rfl rfl (decide_eq_true c31) ?_
      refine o_q (q_eql rfl rfl) ?_
      first | refine o_q (q_pickTv (v := .bool _) rfl (decide_eq_true c31) rfl) ?_ | refine o_q (q_pickT rfl (decide_eq_true c31)) ?_
      first | refine o_q (q_mvv (v := .bool _) rfl) ?_ | refine o_q (q_mv) ?_
      refine JL.guardF rfl rfl (decide_eq_false c32) rfl ?_
      refine JL.guardF rfl rfl (decide_eq_false c32) rfl ?_
      refine JL.guardF rfl rfl (decide_eq_false c32) rfl ?_
      refine JL.guardF rfl rfl (decide_eq_false c32) rfl ?_
      refine JL.guardF rfl rfl (decide_eq_false c32) rfl ?_
      refine JL.guardF rfl rfl (decide_eq_false c32) rfl ?_
      first | refine o_q (q_pickFv (v := .bool _) rfl (decide_eq_false c32) rfl) ?_ | refine o_q (q_pickF rfl (decide_eq_false c32)) ?_
      first | refine o_q (q_asv (v := .bool _) rfl) ?_ | refine o_q (q_as) ?_
      refine JL.nil ?_
      refine J.ret ?_
      obtain rfl := Option.some.inj hm
      exact ret_ok (fn := Try.f42) rfl (.tmp rfl .nil) rfl
  ·
    replace hm := ite_F c31 hm
    refine J.region ?_
    refine o_q (q_fa rfl) ?_
    refine o_q (q_ld rfl inferInstance rfl) ?_
    refine o_q (q_fa rfl) ?_
    refine o_q (q_ld rfl inferInstance rfl) ?_
    refine o_q (q_eql rfl rfl) ?_
    first | refine o_q (q_mvv (v := .bool _) rfl) ?_ | refine o_q (q_mv) ?_
    refine JL.guardF rfl rfl (decide_eq_false c31) rfl ?_
    refine JL.guardF rfl rfl (decide_eq_false c31) rfl ?_
    refine JL.guardF rfl rfl (decide_eq_false c31) rfl ?_
    refine JL.guardF rfl rfl (decide_eq_false c31) rfl ?_
    refine JL.guardF rfl rfl (decide_eq_false c31) rfl ?_
    first | refine o_q (q_pickFv (v := .bool _) rfl (decide_eq_false c31) rfl) ?_ | refine o_q (q_pickF rfl (decide_eq_false c31)) ?_
    first | refine o_q (q_mvv (v := .bool _) rfl) ?_ | refine o_q (q_mv) ?_
    refine JL.guardF rfl rfl rfl rfl ?_
    refine JL.guardF rfl rfl rfl rfl ?_
    refine JL.guardF rfl rfl rfl rfl ?_
    refine JL.guardF rfl rfl rfl rfl ?_
    refine JL.guardF rfl rfl rfl rfl ?_
    refine JL.guardF rfl rfl rfl rfl ?_
    first | refine o_q (q_pickFv (v := .bool _) rfl rfl rfl) ?_ | refine o_q (q_pickF rfl rfl) ?_
    first | refine o_q (q_asv (v := .bool _) rfl) ?_ | refine o_q (q_as) ?_
    refine JL.nil ?_
    refine J.ret ?_
    obtain rfl := Option.some.inj hm
    exact ret_ok (fn := Try.f42) rfl (.tmp rfl .nil) rfl
set_option maxHeartbeats 4000000 in
theorem sparse_Valid_fn {h : Heap} {x0 : TSparse} {v0 : Value} (r0 : AggV TSparseR h v0 x0) {r : Bool} (hm : M.sparse_Valid x0 = some r) :
    Fn Try.prog 10 #[v0] h fun v h' => v = .bool r := by
  obtain ⟨_, rfl, p21, n22, c23, rfl, f24⟩ := r0
  refine Fn.intro (args := [_]) Try.func10 rfl rfl (Nat.le_of_ble_eq_true rfl) fun w => ?_
  unfold M.sparse_Valid at hm
  refine J.seq ?_
  refine J.region ?_
  first | refine o_bx (v := .agg ⟨[.int _ _, .int _ _, .slice _ _ _]⟩) rfl rfl (fun b25 => ?_) | refine o_bx rfl rfl (fun b25 => ?_)
  first | refine o_q (q_asv (v := .bool _) rfl) ?_ | refine o_q (q_as) ?_
  refine JL.nil ?_
  refine J.seq ?_
  refine J.seq ?_
  refine J.joinK (α := Bool) (fun v27 h' L' => (M.sparse_Valid_j3 x0) v27 = some r ∧ Sp ([(b25, row 24 [.int .i64 x0.Rows, .int .i64 x0.Cols, .slice p21 n22 c23])]) L') [(1, .pointer _)] ⟨rfl, trivial⟩ (fun v27 => [(18, .bool v27)]) ?_ ?_
  ·
    by_cases c91 : x0.Rows = (x0.L.length : Int)
    ·
      replace hm := ite_T c91 hm
      refine J.region ?_
      refine o_q (q_fa rfl) ?_
      refine o_q (q_ld rfl inferInstance rfl) ?_
      refine o_q (q_fa rfl) ?_
      refine o_q (q_ld rfl inferInstance rfl) ?_
      refine o_q (q_lenE (k := x0.L.length) rfl (Sls.len f24)) ?_
      refine o_q (q_neq rfl rfl) ?_
      first | refine o_q (q_mvv (v := .bool _) rfl) ?_ | refine o_q (q_mv) ?_
      refine JL.guardT rfl rfl (decide_eq_false (fun z => z c91)) ?_
      refine o_q (q_fa rfl) ?_
      refine JL.guardT rfl rfl (decide_eq_false (fun z => z c91)) ?_
      refine o_q (q_ld rfl inferInstance rfl) ?_
      refine JL.guardT rfl rfl (decide_eq_false (fun z => z c91)) ?_
      refine o_q (q_lss rfl rfl) ?_
      first | refine o_q (q_pickFv (v := .bool _) rfl (decide_eq_false (fun z => z c91)) rfl) ?_ | refine o_q (q_pickF rfl (decide_eq_false (fun z => z c91))) ?_
      refine JL.nil ?_
      exact ⟨(decide (x0.Cols < 0)), rfl, ⟨rfl, trivial⟩, ⟨rfl, trivial⟩, ⟨hm, inferInstance⟩, inferInstance⟩
    ·
      replace hm := ite_F c91 hm
      refine J.region ?_
      refine o_q (q_fa rfl) ?_
      refine o_q (q_ld rfl inferInstance rfl) ?_
      refine o_q (q_fa rfl) ?_
      refine o_q (q_ld rfl inferInstance rfl) ?_
      refine o_q (q_lenE (k := x0.L.length) rfl (Sls.len f24)) ?_
      refine o_q (q_neq rfl rfl) ?_
      first | refine o_q (q_mvv (v := .bool _) rfl) ?_ | refine o_q (q_mv) ?_
      refine JL.guardF rfl rfl (decide_eq_true c91) rfl ?_
      refine JL.guardF rfl rfl (decide_eq_true c91) rfl ?_
      refine JL.guardF rfl rfl (decide_eq_true c91) rfl ?_
      first | refine o_q (q_pickTv (v := .bool _) rfl (decide_eq_true c91) rfl) ?_ | refine o_q (q_pickT rfl (decide_eq_true c91)) ?_
      refine JL.nil ?_
      exact ⟨true, rfl, ⟨rfl, trivial⟩, ⟨rfl, trivial⟩, ⟨hm, inferInstance⟩, inferInstance⟩
  ·
    rintro v27 σq28 hq28 Lq28 sq28 ⟨hm, hspq28⟩
    refine J.sp hspq28 ?_
    unfold M.sparse_Valid_j3 at hm
    by_cases c29 : v27 = true
    ·
      replace hm := ite_T c29 hm
      refine J.condT rfl c29 ?_
      refine J.seq ?_
      refine J.region ?_
      first | refine o_q (q_asv (v := .bool _) rfl) ?_ | refine o_q (q_as) ?_
      refine JL.nil ?_
      refine J.ret ?_
      obtain rfl := Option.some.inj hm
      exact ret_ok (fn := Try.f10) rfl (.tmp rfl .nil) rfl
    ·
      replace hm := ite_F c29 hm
      refine J.condF rfl (eq_false_of_ne_true c29) ?_
      refine J.skip ?_
      refine J.seq ?_
      refine J.seq ?_
      refine J.region ?_
      refine o_q (q_fa rfl) ?_
      refine o_q (q_ld rfl inferInstance rfl) ?_
      refine o_q (q_lenE (k := x0.L.length) rfl (Sls.len f24)) ?_
      first | refine o_q (q_mvv (v := .int _ _) rfl) ?_ | refine o_q (q_mv) ?_
      refine JL.nil ?_
      refine J.block ?_
      obtain ⟨hl32, hm⟩ := rngL_some hm
      refine J.loopK (α := Nat) (fun i31 h' L' => forL (M.sparse_Valid_b2 x0) M.sparse_Valid_k2 (List.drop i31 x0.L) i31 () = some r ∧ Sp ([(b25, row 24 [.int .i64 x0.Rows, .int .i64 x0.Cols, .slice p21 n22 c23])]) L') [(1, .pointer _), (20, .slice _ _ _), (21, .int _ _)] ⟨rfl, rfl, rfl, trivial⟩ (fun i31 => [(22, .int .i64 (i31 : Int))]) (fun i31 => x0.L.length - i31) 0 ⟨hm, inferInstance⟩ ⟨rfl, trivial⟩ ?_
      rintro i31 σq33 hq33 Lq33 sq33 ⟨hm, hspq33⟩
      refine J.sp hspq33 ?_
      refine J.seq ?_
      refine J.region ?_
      refine o_q (q_lss rfl rfl) ?_
      refine JL.nil ?_
      refine J.seq ?_
      by_cases c37 : (i31 : Int) < (x0.L.length : Int)
      ·
        obtain ⟨x38, o35, hl39, hx40, hm, hk36⟩ := forL_cons c37 hm
        unfold M.sparse_Valid_b2 at hm
        refine J.condT rfl (decide_eq_true c37) ?_
        have k41 : -9223372036854775808 ≤ (i31 : Int) + 1 ∧ (i31 : Int) + 1 ≤ 9223372036854775807 := by omega
        refine J.skip ?_
        refine J.seq ?_
        refine J.block ?_
        refine J.seq ?_
        obtain ⟨b42, o43, rfl⟩ := Sls.op f24 hl39
        obtain ⟨us44, hc45, hR46⟩ := Sls.at f24 hx40
        obtain ⟨p47, n48, c49, rfl, f50⟩ := hR46
        refine J.region ?_
        refine o_q (q_ian rfl rfl rfl (by first | exact hl39 | (rw [Sls.len f24]; exact hl39))) ?_
        refine o_q (q_ldf rfl hc45) ?_
        first | refine o_q (q_asv (v := .slice _ _ _) rfl) ?_ | refine o_q (q_as) ?_
        refine JL.nil ?_
        refine J.seq ?_
        refine J.region ?_
        first | refine o_q (q_asv (v := .int _ _) rfl) ?_ | refine o_q (q_as) ?_
        refine JL.nil ?_
        refine J.seq ?_
        refine J.region ?_
        first | refine o_q (q_mvv (v := .slice _ _ _) rfl) ?_ | refine o_q (q_mv) ?_
        refine o_q (q_lenE (k := x38.length) rfl (Sls.len f50)) ?_
        first | refine o_q (q_mvv (v := .int _ _) rfl) ?_ | refine o_q (q_mv) ?_
        refine JL.nil ?_
        refine J.block ?_
        obtain ⟨hl54, hm⟩ := rngL_some hm
        refine J.loopK (α := Nat × Int) (fun ⟨i53, v51⟩ h' L' => forL (M.sparse_Valid_b1 x0) M.sparse_Valid_k1 (List.drop i53 x38) i53 v51 = some o35 ∧ Sp ([(b25, row 24 [.int .i64 x0.Rows, .int .i64 x0.Cols, .slice (some ⟨b42, o43, none⟩) n22 c23])]) L') [(1, .pointer _), (20, .slice _ _ _), (21, .int _ _), (22, .int _ _), (26, .slice _ _ _), (27, .int _ _)] ⟨rfl, rfl, rfl, rfl, rfl, rfl, trivial⟩ (fun ⟨i53, v51⟩ => [(5, .int .i64 v51), (28, .int .i64 (i53 : Int))]) (fun ⟨i53, v51⟩ => x38.length - i53) ⟨0, (-1)⟩ ⟨hm, inferInstance⟩ ⟨rfl, rfl, trivial⟩ ?_
        rintro ⟨i53, v51⟩ σq55 hq55 Lq55 sq55 ⟨hm, hspq55⟩
        refine J.sp hspq55 ?_
        refine J.seq ?_
        refine J.region ?_
        refine o_q (q_lss rfl rfl) ?_
        refine JL.nil ?_
        refine J.seq ?_
        by_cases c59 : (i53 : Int) < (x38.length : Int)
        ·
          obtain ⟨x60, o57, hl61, hx62, hm, hk58⟩ := forL_cons c59 hm
          unfold M.sparse_Valid_b1 at hm
          refine J.condT rfl (decide_eq_true c59) ?_
          have k63 : -9223372036854775808 ≤ (i53 : Int) + 1 ∧ (i53 : Int) + 1 ≤ 9223372036854775807 := by omega
          refine J.skip ?_
          refine J.seq ?_
          refine J.block ?_
          refine J.seq ?_
          obtain ⟨b64, o65, rfl⟩ := Sls.op f50 hl61
          obtain ⟨us66, hc67, hR68⟩ := Sls.at f50 hx62
          obtain ⟨g69, p70, n71, c72, rfl, f73⟩ := hR68
          refine J.region ?_
          refine o_q (q_ian rfl rfl rfl (by first | exact hl61 | (rw [Sls.len f50]; exact hl61))) ?_
          refine o_q (q_ldfa rfl hc67) ?_
          refine o_al (fun b74 => ?_)
          first | refine o_stc (vs := [.int _ _, .bool _, .slice _ _ _]) (l' := [.int _ _, .bool _, .slice _ _ _]) rfl rfl rfl rfl rfl inferInstance rfl rfl ?_ | refine o_stc (vs := [_, _, _]) (l' := [_, _, _]) rfl rfl rfl rfl rfl inferInstance rfl rfl ?_
          refine JL.nil ?_
          refine J.seq ?_
          refine J.seq ?_
          by_cases c75 : x60.Col ≤ v51
          ·
            replace hm := ite_T c75 hm
            refine J.region ?_
            refine o_q (q_fa rfl) ?_
            refine o_q (q_ld rfl inferInstance rfl) ?_
            first | refine o_q (q_mvv (v := .int _ _) rfl) ?_ | refine o_q (q_mv) ?_
            refine o_q (q_leq rfl rfl) ?_
            first | refine o_q (q_mvv (v := .bool _) rfl) ?_ | refine o_q (q_mv) ?_
            refine JL.guardF rfl rfl (decide_eq_true c75) rfl ?_
            refine JL.guardF rfl rfl (decide_eq_true c75) rfl ?_
            refine JL.guardF rfl rfl (decide_eq_true c75) rfl ?_
            refine JL.guardF rfl rfl (decide_eq_true c75) rfl ?_
            refine JL.guardF rfl rfl (decide_eq_true c75) rfl ?_
            first | refine o_q (q_pickTv (v := .bool _) rfl (decide_eq_true c75) rfl) ?_ | refine o_q (q_pickT rfl (decide_eq_true c75)) ?_
            first | refine o_q (q_mvv (v := .bool _) rfl) ?_ | refine o_q (q_mv) ?_
            refine JL.guardF rfl rfl rfl rfl ?_
            refine JL.guardF rfl rfl rfl rfl ?_
            refine JL.guardF rfl rfl rfl rfl ?_
            refine JL.guardF rfl rfl rfl rfl ?_
            first | refine o_q (q_pickTv (v := .bool _) rfl rfl rfl) ?_ | refine o_q (q_pickT rfl rfl) ?_
            first | refine o_q (q_mvv (v := .bool _) rfl) ?_ | refine o_q (q_mv) ?_
            refine JL.guardF rfl rfl rfl rfl ?_
            refine JL.guardF rfl rfl rfl rfl ?_
            refine JL.guardF rfl rfl rfl rfl ?_
            refine JL.guardF rfl rfl rfl rfl ?_
            first | refine o_q (q_pickTv (v := .bool _) rfl rfl rfl) ?_ | refine o_q (q_pickT rfl rfl) ?_
            refine JL.nil ?_
            refine J.condT rfl rfl ?_
            refine J.seq ?_
            refine J.region ?_
            first | refine o_q (q_asv (v := .bool _) rfl) ?_ | refine o_q (q_as) ?_
            refine JL.nil ?_
            replace hm := inr_onward hm hk58
            replace hm := inr_onward hm hk36
            refine J.ret ?_
            obtain rfl := Option.some.inj hm
            exact ret_ok (fn := Try.f10) rfl (.tmp rfl .nil) rfl
          ·
            replace hm := ite_F c75 hm
            by_cases c76 : x0.Cols ≤ x60.Col
            ·
              replace hm := ite_T c76 hm
              refine J.region ?_
              refine o_q (q_fa rfl) ?_
              refine o_q (q_ld rfl inferInstance rfl) ?_
              first | refine o_q (q_mvv (v := .int _ _) rfl) ?_ | refine o_q (q_mv) ?_
              refine o_q (q_leq rfl rfl) ?_
              first | refine o_q (q_mvv (v := .bool _) rfl) ?_ | refine o_q (q_mv) ?_
              refine JL.guardT rfl rfl (decide_eq_false c75) ?_
              refine o_q (q_fa rfl) ?_
              refine JL.guardT rfl rfl (decide_eq_false c75) ?_
              refine o_q (q_ld rfl inferInstance rfl) ?_
              refine JL.guardT rfl rfl (decide_eq_false c75) ?_
              refine o_q (q_fa rfl) ?_
              refine JL.guardT rfl rfl (decide_eq_false c75) ?_
              refine o_q (q_ld rfl inferInstance rfl) ?_
              refine JL.guardT rfl rfl (decide_eq_false c75) ?_
              refine o_q (q_geq rfl rfl) ?_
              first | refine o_q (q_pickFv (v := .bool _) rfl (decide_eq_false c75) rfl) ?_ | refine o_q (q_pickF rfl (decide_eq_false c75)) ?_
              first | refine o_q (q_mvv (v := .bool _) rfl) ?_ | refine o_q (q_mv) ?_
              refine JL.guardF rfl rfl (decide_eq_true c76) rfl ?_
              refine JL.guardF rfl rfl (decide_eq_true c76) rfl ?_
              refine JL.guardF rfl rfl (decide_eq_true c76) rfl ?_
              refine JL.guardF rfl rfl (decide_eq_true c76) rfl ?_
              first | refine o_q (q_pickTv (v := .bool _) rfl (decide_eq_true c76) rfl) ?_ | refine o_q (q_pickT rfl (decide_eq_true c76)) ?_
              first | refine o_q (q_mvv (v := .bool _) rfl) ?_ | refine o_q (q_mv) ?_
              refine JL.guardF rfl rfl rfl rfl ?_
              refine JL.guardF rfl rfl rfl rfl ?_
              refine JL.guardF rfl rfl rfl rfl ?_
              refine JL.guardF rfl rfl rfl rfl ?_
              first | refine o_q (q_pickTv (v := .bool _) rfl rfl rfl) ?_ | refine o_q (q_pickT rfl rfl) ?_
              refine JL.nil ?_
              refine J.condT rfl rfl ?_
              refine J.seq ?_
              refine J.region ?_
              first | refine o_q (q_asv (v := .bool _) rfl) ?_ | refine o_q (q_as) ?_
              refine JL.nil ?_
              replace hm := inr_onward hm hk58
              replace hm := inr_onward hm hk36
              refine J.ret ?_
              obtain rfl := Option.some.inj hm
              exact ret_ok (fn := Try.f10) rfl (.tmp rfl .nil) rfl
            ·
              replace hm := ite_F c76 hm
              obtain ⟨y82, e81, hm⟩ := bnd_some hm
              by_cases c83 : y82 = true
              ·
                replace hm := ite_T c83 hm
                obtain ⟨y89, e88, hm⟩ := bnd_some hm
                refine J.region ?_
                refine o_q (q_fa rfl) ?_
                refine o_q (q_ld rfl inferInstance rfl) ?_
                first | refine o_q (q_mvv (v := .int _ _) rfl) ?_ | refine o_q (q_mv) ?_
                refine o_q (q_leq rfl rfl) ?_
                first | refine o_q (q_mvv (v := .bool _) rfl) ?_ | refine o_q (q_mv) ?_
                refine JL.guardT rfl rfl (decide_eq_false c75) ?_
                refine o_q (q_fa rfl) ?_
                refine JL.guardT rfl rfl (decide_eq_false c75) ?_
                refine o_q (q_ld rfl inferInstance rfl) ?_
                refine JL.guardT rfl rfl (decide_eq_false c75) ?_
                refine o_q (q_fa rfl) ?_
                refine JL.guardT rfl rfl (decide_eq_false c75) ?_
                refine o_q (q_ld rfl inferInstance rfl) ?_
                refine JL.guardT rfl rfl (decide_eq_false c75) ?_
                refine o_q (q_geq rfl rfl) ?_
                first | refine o_q (q_pickFv (v := .bool _) rfl (decide_eq_false c75) rfl) ?_ | refine o_q (q_pickF rfl (decide_eq_false c75)) ?_
                first | refine o_q (q_mvv (v := .bool _) rfl) ?_ | refine o_q (q_mv) ?_
                refine JL.guardT rfl rfl (decide_eq_false c76) ?_
                refine o_q (q_fa rfl) ?_
                refine JL.guardT rfl rfl (decide_eq_false c76) ?_
                refine o_q (q_lda (vs := [_, _]) rfl inferInstance ⟨rfl, rfl, trivial⟩) ?_
                refine JL.guardT rfl rfl (decide_eq_false c76) ?_
                refine o_call (valid_fn' (IntR.at (Mo.up f73)) e81) (fun v77 h78 s79 r80 => ?_)
                obtain rfl := (show _ = _ from r80)
                refine JL.guardT rfl rfl (decide_eq_false c76) ?_
                refine o_q (q_not rfl) ?_
                first | refine o_q (q_pickFv (v := .bool _) rfl (decide_eq_false c76) rfl) ?_ | refine o_q (q_pickF rfl (decide_eq_false c76)) ?_
                first | refine o_q (q_mvv (v := .bool _) rfl) ?_ | refine o_q (q_mv) ?_
                refine JL.guardT rfl rfl (congrArg Bool.not (show y82 = true from c83)) ?_
                refine o_q (q_fa rfl) ?_
                refine JL.guardT rfl rfl (congrArg Bool.not (show y82 = true from c83)) ?_
                refine o_q (q_lda (vs := [_, _]) rfl inferInstance ⟨rfl, rfl, trivial⟩) ?_
                refine JL.guardT rfl rfl (congrArg Bool.not (show y82 = true from c83)) ?_
                refine o_call (sign_fn' (IntR.at (Mo.up f73)) e88) (fun v84 h85 s86 r87 => ?_)
                obtain rfl := (show _ = _ from r87)
                refine JL.guardT rfl rfl (congrArg Bool.not (show y82 = true from c83)) ?_
                refine o_q (q_eql rfl rfl) ?_
                first | refine o_q (q_pickFv (v := .bool _) rfl (congrArg Bool.not (show y82 = true from c83)) rfl) ?_ | refine o_q (q_pickF rfl (congrArg Bool.not (show y82 = true from c83))) ?_
                refine JL.nil ?_
                by_cases c90 : y89 = 0
                ·
                  replace hm := ite_T c90 hm
                  refine J.condT rfl (decide_eq_true c90) ?_
                  refine J.seq ?_
                  refine J.region ?_
                  first | refine o_q (q_asv (v := .bool _) rfl) ?_ | refine o_q (q_as) ?_
                  refine JL.nil ?_
                  replace hm := inr_onward hm hk58
                  replace hm := inr_onward hm hk36
                  refine J.ret ?_
                  obtain rfl := Option.some.inj hm
                  exact ret_ok (fn := Try.f10) rfl (.tmp rfl .nil) rfl
                ·
                  replace hm := ite_F c90 hm
                  refine J.condF rfl (decide_eq_false c90) ?_
                  refine J.skip ?_
                  refine J.region ?_
                  refine o_q (q_fa rfl) ?_
                  refine o_q (q_ld rfl inferInstance rfl) ?_
                  first | refine o_q (q_asv (v := .int _ _) rfl) ?_ | refine o_q (q_as) ?_
                  refine JL.nil ?_
                  refine J.region ?_
                  refine o_q (q_add rfl rfl (wi64 k63)) ?_
                  first | refine o_q (q_mvv (v := .int _ _) rfl) ?_ | refine o_q (q_mv) ?_
                  refine JL.nil ?_
                  replace hm := inl_onward hm hk58
                  exact ⟨⟨i53 + 1, x60.Col⟩, rfl, ⟨rfl, rfl, rfl, rfl, rfl, rfl, trivial⟩, ⟨rfl, rfl, trivial⟩, ⟨hm, inferInstance⟩, (muL hl61), inferInstance⟩
              ·
                replace hm := ite_F c83 hm
                refine J.region ?_
                refine o_q (q_fa rfl) ?_
                refine o_q (q_ld rfl inferInstance rfl) ?_
                first | refine o_q (q_mvv (v := .int _ _) rfl) ?_ | refine o_q (q_mv) ?_
                refine o_q (q_leq rfl rfl) ?_
                first | refine o_q (q_mvv (v := .bool _) rfl) ?_ | refine o_q (q_mv) ?_
                refine JL.guardT rfl rfl (decide_eq_false c75) ?_
                refine o_q (q_fa rfl) ?_
                refine JL.guardT rfl rfl (decide_eq_false c75) ?_
                refine o_q (q_ld rfl inferInstance rfl) ?_
                refine JL.guardT rfl rfl (decide_eq_false c75) ?_
                refine o_q (q_fa rfl) ?_
                refine JL.guardT rfl rfl (decide_eq_false c75) ?_
                refine o_q (q_ld rfl inferInstance rfl) ?_
                refine JL.guardT rfl rfl (decide_eq_false c75) ?_
                refine o_q (q_geq rfl rfl) ?_
                first | refine o_q (q_pickFv (v := .bool _) rfl (decide_eq_false c75) rfl) ?_ | refine o_q (q_pickF rfl (decide_eq_false c75)) ?_
                first | refine o_q (q_mvv (v := .bool _) rfl) ?_ | refine o_q (q_mv) ?_
                refine JL.guardT rfl rfl (decide_eq_false c76) ?_
                refine o_q (q_fa rfl) ?_
                refine JL.guardT rfl rfl (decide_eq_false c76) ?_
                refine o_q (q_lda (vs := [_, _]) rfl inferInstance ⟨rfl, rfl, trivial⟩) ?_
                refine JL.guardT rfl rfl (decide_eq_false c76) ?_
                refine o_call (valid_fn' (IntR.at (Mo.up f73)) e81) (fun v77 h78 s79 r80 => ?_)
                obtain rfl := (show _ = _ from r80)
                refine JL.guardT rfl rfl (decide_eq_false c76) ?_
                refine o_q (q_not rfl) ?_
                first | refine o_q (q_pickFv (v := .bool _) rfl (decide_eq_false c76) rfl) ?_ | refine o_q (q_pickF rfl (decide_eq_false c76)) ?_
                first | refine o_q (q_mvv (v := .bool _) rfl) ?_ | refine o_q (q_mv) ?_
                refine JL.guardF rfl rfl (congrArg Bool.not (show y82 = false from (eq_false_of_ne_true c83))) rfl ?_
                refine JL.guardF rfl rfl (congrArg Bool.not (show y82 = false from (eq_false_of_ne_true c83))) rfl ?_
                refine JL.guardF rfl rfl (congrArg Bool.not (show y82 = false from (eq_false_of_ne_true c83))) rfl ?_
                refine JL.guardF rfl rfl (congrArg Bool.not (show y82 = false from (eq_false_of_ne_true c83))) rfl ?_
                first | refine o_q (q_pickTv (v := .bool _) rfl (congrArg Bool.not (show y82 = false from (eq_false_of_ne_true c83))) rfl) ?_ | refine o_q (q_pickT rfl (congrArg Bool.not (show y82 = false from (eq_false_of_ne_true c83)))) ?_
                refine JL.nil ?_
                refine J.condT rfl rfl ?_
                refine J.seq ?_
                refine J.region ?_
                first | refine o_q (q_asv (v := .bool _) rfl) ?_ | refine o_q (q_as) ?_
                refine JL.nil ?_
                replace hm := inr_onward hm hk58
                replace hm := inr_onward hm hk36
                refine J.ret ?_
                obtain rfl := Option.some.inj hm
                exact ret_ok (fn := Try.f10) rfl (.tmp rfl .nil) rfl
        ·
          replace hm := forL_nil c59 hm
          unfold M.sparse_Valid_k1 at hm
          refine J.condF rfl (decide_eq_false c59) ?_
          refine J.exit ?_
          refine J.region ?_
          refine o_q (q_add rfl rfl (wi64 k41)) ?_
          first | refine o_q (q_mvv (v := .int _ _) rfl) ?_ | refine o_q (q_mv) ?_
          refine JL.nil ?_
          replace hm := inl_onward hm hk36
          exact ⟨(i31 + 1), rfl, ⟨rfl, rfl, rfl, trivial⟩, ⟨rfl, trivial⟩, ⟨hm, inferInstance⟩, (muL hl39), inferInstance⟩
      ·
        replace hm := forL_nil c37 hm
        unfold M.sparse_Valid_k2 at hm
        refine J.condF rfl (decide_eq_false c37) ?_
        refine J.exit ?_
        refine J.seq ?_
        refine J.region ?_
        first | refine o_q (q_asv (v := .bool _) rfl) ?_ | refine o_q (q_as) ?_
        refine JL.nil ?_
        refine J.ret ?_
        obtain rfl := Option.some.inj hm
        exact ret_ok (fn := Try.f10) rfl (.tmp rfl .nil) rfl
set_option maxHeartbeats 4000000 in
theorem sparse_Nonzero_fn {h : Heap} {x0 : TSparse} {v0 : Value} (r0 : AggV TSparseR h v0 x0) {r : Int} (hm : M.sparse_Nonzero x0 = some r) :
    Fn Try.prog 39 #[v0] h fun v h' => v = .int .i64 r := by
  obtain ⟨_, rfl, p21, n22, c23, rfl, f24⟩ := r0
  refine Fn.intro (args := [_]) Try.func39 rfl rfl (Nat.le_of_ble_eq_true rfl) fun w => ?_
  unfold M.sparse_Nonzero at hm
  refine J.seq ?_
  refine J.region ?_
  first | refine o_bx (v := .agg ⟨[.int _ _, .int _ _, .slice _ _ _]⟩) rfl rfl (fun b25 => ?_) | refine o_bx rfl rfl (fun b25 => ?_)
  first | refine o_q (q_asv (v := .int _ _) rfl) ?_ | refine o_q (q_as) ?_
  refine JL.nil ?_
  refine J.seq ?_
  refine J.region ?_
  first | refine o_q (q_asv (v := .int _ _) rfl) ?_ | refine o_q (q_as) ?_
  refine JL.nil ?_
  refine J.seq ?_
  refine J.seq ?_
  refine J.region ?_
  refine o_q (q_fa rfl) ?_
  refine o_q (q_ld rfl inferInstance rfl) ?_
  refine o_q (q_lenE (k := x0.L.length) rfl (Sls.len f24)) ?_
  first | refine o_q (q_mvv (v := .int _ _) rfl) ?_ | refine o_q (q_mv) ?_
  refine JL.nil ?_
  refine J.block ?_
  obtain ⟨hl29, hm⟩ := rngL_some hm
  refine J.loopK (α := Nat × Int) (fun ⟨i28, v26⟩ h' L' => forL M.sparse_Nonzero_b1 M.sparse_Nonzero_k1 (List.drop i28 x0.L) i28 v26 = some r ∧ Sp ([]) L') [(7, .slice _ _ _), (8, .int _ _)] ⟨rfl, rfl, trivial⟩ (fun ⟨i28, v26⟩ => [(3, .int .i64 v26), (9, .int .i64 (i28 : Int))]) (fun ⟨i28, v26⟩ => x0.L.length - i28) ⟨0, 0⟩ ⟨hm, inferInstance⟩ ⟨rfl, rfl, trivial⟩ ?_
  rintro ⟨i28, v26⟩ σq30 hq30 Lq30 sq30 ⟨hm, hspq30⟩
  refine J.sp hspq30 ?_
  refine J.seq ?_
  refine J.region ?_
  refine o_q (q_lss rfl rfl) ?_
  refine JL.nil ?_
  refine J.seq ?_
  by_cases c34 : (i28 : Int) < (x0.L.length : Int)
  ·
    obtain ⟨x35, o32, hl36, hx37, hm, hk33⟩ := forL_cons c34 hm
    unfold M.sparse_Nonzero_b1 at hm
    refine J.condT rfl (decide_eq_true c34) ?_
    have k38 : -9223372036854775808 ≤ (i28 : Int) + 1 ∧ (i28 : Int) + 1 ≤ 9223372036854775807 := by omega
    refine J.skip ?_
    refine J.seq ?_
    refine J.block ?_
    refine J.seq ?_
    obtain ⟨b39, o40, rfl⟩ := Sls.op f24 hl36
    obtain ⟨us41, hc42, hR43⟩ := Sls.at f24 hx37
    obtain ⟨p44, n45, c46, rfl, f47⟩ := hR43
    refine J.region ?_
    refine o_q (q_ian rfl rfl rfl (by first | exact hl36 | (rw [Sls.len f24]; exact hl36))) ?_
    refine o_q (q_ldf rfl hc42) ?_
    first | refine o_q (q_asv (v := .slice _ _ _) rfl) ?_ | refine o_q (q_as) ?_
    refine JL.nil ?_
    obtain ⟨k48, hm⟩ := chk64_some hm
    refine J.region ?_
    first | refine o_q (q_mvv (v := .int _ _) rfl) ?_ | refine o_q (q_mv) ?_
    first | refine o_q (q_mvv (v := .slice _ _ _) rfl) ?_ | refine o_q (q_mv) ?_
    refine o_q (q_lenE (k := x35.length) rfl (Sls.len f47)) ?_
    refine o_q (q_add rfl rfl (wi64 k48)) ?_
    first | refine o_q (q_asv (v := .int _ _) rfl) ?_ | refine o_q (q_as) ?_
    refine JL.nil ?_
    refine J.region ?_
    refine o_q (q_add rfl rfl (wi64 k38)) ?_
    first | refine o_q (q_mvv (v := .int _ _) rfl) ?_ | refine o_q (q_mv) ?_
    refine JL.nil ?_
    replace hm := inl_onward hm hk33
    exact ⟨⟨i28 + 1, v26 + (x35.length : Int)⟩, rfl, ⟨rfl, rfl, trivial⟩, ⟨rfl, rfl, trivial⟩, ⟨hm, inferInstance⟩, (muL hl36), inferInstance⟩
  ·
    replace hm := forL_nil c34 hm
    unfold M.sparse_Nonzero_k1 at hm
    refine J.condF rfl (decide_eq_false c34) ?_
    refine J.exit ?_
    refine J.seq ?_
    refine J.region ?_
    first | refine o_q (q_mvv (v := .int _ _) rfl) ?_ | refine o_q (q_mv) ?_
    first | refine o_q (q_asv (v := .int _ _) rfl) ?_ | refine o_q (q_as) ?_
    refine JL.nil ?_
    refine J.ret ?_
    obtain rfl := Option.some.inj hm
    exact ret_ok (fn := Try.f39) rfl (.tmp rfl .nil) rfl
end Go.Z
end
