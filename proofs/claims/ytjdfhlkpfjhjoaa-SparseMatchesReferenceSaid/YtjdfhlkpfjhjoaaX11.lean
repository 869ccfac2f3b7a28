/- Texts of ours, joined: L6aW. -/
import Derived.Test.YtjdfhlkpfjhjoaaX4
import Derived.Test.YtjdfhlkpfjhjoaaX1
import Derived.Test.YtjdfhlkpfjhjoaaX9
import Derived.Test.YtjdfhlkpfjhjoaaX10
section
set_option linter.unusedSimpArgs false
set_option linter.unusedVariables false
/- Functions of the program return what their models compute; printed by wip/tools/gx.py. -/
set_option linter.unusedVariables false
set_option linter.unusedSimpArgs false
namespace Go.Z
open Go Go.RowKit Go.Proofs
set_option maxHeartbeats 4000000 in
theorem torsionref06_zero_fn {h : Heap}  {r : Int} (hm : M.torsionref06_zero  = some r) :
    Fn Try.prog 47 #[] h fun v h' => IntAt h' v r := by
  refine Fn.intro (args := []) Try.func47 rfl rfl (Nat.le_of_ble_eq_true rfl) fun w => ?_
  unfold M.torsionref06_zero at hm
  refine J.seq ?_
  refine J.region ?_
  refine o_al (fun b21 => ?_)
  refine JL.nil ?_
  refine J.seq ?_
  obtain ⟨y27, e26, hm⟩ := bnd_some hm
  refine J.region ?_
  refine o_call (rof_fn e26) (fun v22 h23 s24 r25 => ?_)
  obtain ⟨g28, p29, n30, c31, rfl, f32⟩ := IntAt.op r25
  first | refine o_stc (vs := [.bool _, .slice _ _ _]) (l' := [.bool _, .slice _ _ _]) rfl rfl rfl rfl rfl inferInstance rfl rfl ?_ | refine o_stc (vs := [_, _]) (l' := [_, _]) rfl rfl rfl rfl rfl inferInstance rfl rfl ?_
  refine JL.nil ?_
  refine J.ret ?_
  obtain rfl := Option.some.inj hm
  exact ret_ok (fn := Try.f47) rfl (.agg rfl inferInstance inferInstance .nil) (IntR.at (Mo.up f32))
set_option maxHeartbeats 4000000 in
theorem torsionref06_Sized_fn {h : Heap} {x0 : R06Raw} {x1 : Int} {x2 : Int} {v0 : Value} (r0 : AggV R06RawR h v0 x0) {r : TMat} (hm : M.torsionref06_Sized x0 x1 x2 = some r) :
    Fn Try.prog 28 #[v0, .int .i64 x1, .int .i64 x2] h fun v h' => AggV TMatR h' v r := by
  obtain ⟨_, rfl, p21, n22, c23, rfl, f24⟩ := r0
  refine Fn.intro (args := [_, _, _]) Try.func28 rfl rfl (Nat.le_of_ble_eq_true rfl) fun w => ?_
  unfold M.torsionref06_Sized at hm
  refine J.seq ?_
  refine J.region ?_
  first | refine o_bx (v := .agg ⟨[.int _ _, .int _ _, .slice _ _ _]⟩) rfl rfl (fun b25 => ?_) | refine o_bx rfl rfl (fun b25 => ?_)
  refine o_al (fun b26 => ?_)
  refine JL.nil ?_
  refine J.seq ?_
  refine J.region ?_
  first | refine o_q (q_mvv (v := .int _ _) rfl) ?_ | refine o_q (q_mv) ?_
  first | refine o_q (q_mvv (v := .int _ _) rfl) ?_ | refine o_q (q_mv) ?_
  first | refine o_q (q_bd [.int _ _, .int _ _, .slice _ _ _] rfl) ?_ | refine o_q (q_bd [_, _, _] rfl) ?_
  refine o_al (fun b27 => ?_)
  first | refine o_stc (vs := [.int _ _, .int _ _, .slice _ _ _]) (l' := [.int _ _, .int _ _, .slice _ _ _]) rfl rfl rfl rfl rfl inferInstance rfl rfl ?_ | refine o_stc (vs := [_, _, _]) (l' := [_, _, _]) rfl rfl rfl rfl rfl inferInstance rfl rfl ?_
  refine JL.nil ?_
  refine J.seq ?_
  refine J.seq ?_
  refine J.region ?_
  first | refine o_q (q_asv (v := .int _ _) rfl) ?_ | refine o_q (q_as) ?_
  refine JL.nil ?_
  refine J.block ?_
  obtain ⟨k41, hm⟩ := rngN_some hm
  refine J.loopK (α := Int × (List Int) × (List (List Int)) × (Option Addr) × Nat × Nat × (Option Addr) × Nat × Nat × Own) (fun ⟨i40, v28, v33, p29, n30, c31, p34, n35, c36, L38⟩ h' L' => Sls (KR .i8) 1 h' (.slice p29 n30 c31) v28 ∧ OwnL (LR IntR 2) 32 1 h' (.slice p34 n35 c36) v33 L38 ∧ 0 ≤ i40 ∧ forN (M.torsionref06_Sized_b3 x2) (M.torsionref06_Sized_k3 x1 x2) x1 i40 (v28, v33) = some r ∧ Sp (L38 ++ ([(b25, row 46 [.int .u8 x0.Rows, .int .u8 x0.Cols, .slice p29 n30 c31]), (b26, row 50 [.int .i64 0, .int .i64 0, .slice none 0 0]), (b27, row 50 [.int .i64 x1, .int .i64 x2, .slice p34 n35 c36])])) L') [(1, .int _ _), (2, .int _ _), (3, .pointer _), (6, .pointer _), (7, .pointer _)] ⟨rfl, rfl, rfl, rfl, rfl, trivial⟩ (fun ⟨i40, v28, v33, p29, n30, c31, p34, n35, c36, L38⟩ => [(8, .int .i64 i40)]) (fun ⟨i40, v28, v33, p29, n30, c31, p34, n35, c36, L38⟩ => (x1 - i40).toNat) ⟨0, x0.A, ([] : List (List Int)), p21, n22, c23, none, 0, 0, []⟩ ⟨(Sls.mono f24), (OwnL.nil _), Int.le_refl _, hm, inferInstance⟩ ⟨rfl, trivial⟩ ?_
  rintro ⟨i40, v28, v33, p29, n30, c31, p34, n35, c36, L38⟩ σq42 hq42 Lq42 sq42 ⟨f32, f37, hle43, hm, hspq42⟩
  refine J.sp hspq42 ?_
  refine J.seq ?_
  refine J.seq ?_
  refine J.region ?_
  first | refine o_q (q_mvv (v := .int _ _) rfl) ?_ | refine o_q (q_mv) ?_
  first | refine o_q (q_mvv (v := .int _ _) rfl) ?_ | refine o_q (q_mv) ?_
  refine o_q (q_lss rfl rfl) ?_
  refine JL.nil ?_
  by_cases c46 : i40 < x1
  ·
    obtain ⟨o44, hm, hk45⟩ := forN_lt c46 hm
    unfold M.torsionref06_Sized_b3 at hm
    refine J.condT rfl (decide_eq_true c46) ?_
    have k47 : -9223372036854775808 ≤ i40 + 1 ∧ i40 + 1 ≤ 9223372036854775807 := by omega
    refine J.skip ?_
    refine J.seq ?_
    refine J.block ?_
    refine J.seq ?_
    refine J.region ?_
    first | refine o_bs [] (by decide) rfl (fun b48 => ?_) | refine o_bs [] (by decide) rfl (fun b48 => ?_)
    refine JL.fact (fun h => Cells IntR 2 h [] ([] : List Int)) (show Cells IntR 2 _ [] ([] : List Int) from Cells.nil) (fun hc49 => ?_)
    refine JL.fact (fun h => OwnL IntR 37 2 h (.slice (some ⟨b48, 0, none⟩) 0 0) ([] : List Int) [(b48, row 37 [])]) (OwnL.lit _ rfl hc49 rfl) (fun ho50 => ?_)
    first | refine o_q (q_asv (v := .slice _ _ _) rfl) ?_ | refine o_q (q_as) ?_
    refine JL.nil ?_
    refine J.seq ?_
    refine J.seq ?_
    refine J.region ?_
    first | refine o_q (q_asv (v := .int _ _) rfl) ?_ | refine o_q (q_as) ?_
    refine JL.nil ?_
    refine J.block ?_
    obtain ⟨k64, hm⟩ := rngN_some hm
    refine J.loopK (α := Int × (List Int) × (List Int) × (Option Addr) × Nat × Nat × (Option Addr) × Nat × Nat × Own) (fun ⟨i63, v51, v56, p52, n53, c54, p57, n58, c59, L61⟩ h' L' => Sls (KR .i8) 1 h' (.slice p52 n53 c54) v51 ∧ OwnL IntR 37 2 h' (.slice p57 n58 c59) v56 L61 ∧ 0 ≤ i63 ∧ forN (M.torsionref06_Sized_b2 x2 i40) (M.torsionref06_Sized_k2 v33) x2 i63 (v51, v56) = some o44 ∧ Sp (L38 ++ (L61 ++ ([(b25, row 46 [.int .u8 x0.Rows, .int .u8 x0.Cols, .slice p52 n53 c54]), (b26, row 50 [.int .i64 0, .int .i64 0, .slice none 0 0]), (b27, row 50 [.int .i64 x1, .int .i64 x2, .slice p34 n35 c36])]))) L') [(1, .int _ _), (2, .int _ _), (3, .pointer _), (6, .pointer _), (7, .pointer _), (8, .int _ _)] ⟨rfl, rfl, rfl, rfl, rfl, rfl, trivial⟩ (fun ⟨i63, v51, v56, p52, n53, c54, p57, n58, c59, L61⟩ => [(9, .slice p57 n58 c59), (10, .int .i64 i63)]) (fun ⟨i63, v51, v56, p52, n53, c54, p57, n58, c59, L61⟩ => (x2 - i63).toNat) ⟨0, v28, ([] : List Int), p29, n30, c31, (some ⟨b48, 0, none⟩), 0, 0, [(b48, row 37 [])]⟩ ⟨(Sls.mono f32), (OwnL.mono ho50), Int.le_refl _, hm, inferInstance⟩ ⟨rfl, rfl, trivial⟩ ?_
    rintro ⟨i63, v51, v56, p52, n53, c54, p57, n58, c59, L61⟩ σq65 hq65 Lq65 sq65 ⟨f55, f60, hle66, hm, hspq65⟩
    refine J.sp hspq65 ?_
    refine J.seq ?_
    refine J.seq ?_
    refine J.region ?_
    first | refine o_q (q_mvv (v := .int _ _) rfl) ?_ | refine o_q (q_mv) ?_
    first | refine o_q (q_mvv (v := .int _ _) rfl) ?_ | refine o_q (q_mv) ?_
    refine o_q (q_lss rfl rfl) ?_
    refine JL.nil ?_
    by_cases c69 : i63 < x2
    ·
      obtain ⟨o67, hm, hk68⟩ := forN_lt c69 hm
      unfold M.torsionref06_Sized_b2 at hm
      refine J.condT rfl (decide_eq_true c69) ?_
      have k70 : -9223372036854775808 ≤ i63 + 1 ∧ i63 + 1 ≤ 9223372036854775807 := by omega
      refine J.skip ?_
      refine J.seq ?_
      refine J.block ?_
      refine J.seq ?_
      refine J.region ?_
      first | refine o_q (q_asv (v := .int _ _) rfl) ?_ | refine o_q (q_as) ?_
      refine JL.nil ?_
      refine J.seq ?_
      refine J.joinK (α := (List Int) × Int × (Option Addr) × Nat × Nat) (fun ⟨v72, v77, p73, n74, c75⟩ h' L' => Sls (KR .i8) 1 h' (.slice p73 n74 c75) v72 ∧ (M.torsionref06_Sized_j1 v56) v72 v77 = some o67 ∧ Sp (L38 ++ (L61 ++ ([(b25, row 46 [.int .u8 x0.Rows, .int .u8 x0.Cols, .slice p73 n74 c75]), (b26, row 50 [.int .i64 0, .int .i64 0, .slice none 0 0]), (b27, row 50 [.int .i64 x1, .int .i64 x2, .slice p34 n35 c36])]))) L') [(1, .int _ _), (2, .int _ _), (3, .pointer _), (6, .pointer _), (7, .pointer _), (8, .int _ _), (9, .slice _ _ _), (10, .int _ _)] ⟨rfl, rfl, rfl, rfl, rfl, rfl, rfl, rfl, trivial⟩ (fun ⟨v72, v77, p73, n74, c75⟩ => [(11, .int .i64 v77)]) ?_ ?_
      ·
        refine J.seq ?_
        obtain ⟨k105, hm⟩ := chk64_some hm
        obtain ⟨k106, hm⟩ := chk64_some hm
        refine J.region ?_
        first | refine o_q (q_mvv (v := .int _ _) rfl) ?_ | refine o_q (q_mv) ?_
        first | refine o_q (q_mvv (v := .int _ _) rfl) ?_ | refine o_q (q_mv) ?_
        refine o_q (q_mul rfl rfl (wi64 k105)) ?_
        first | refine o_q (q_mvv (v := .int _ _) rfl) ?_ | refine o_q (q_mv) ?_
        refine o_q (q_add rfl rfl (wi64 k106)) ?_
        refine o_q (q_fa rfl) ?_
        refine o_q (q_ld rfl inferInstance rfl) ?_
        refine o_q (q_lenE (k := v51.length) rfl (Sls.len f55)) ?_
        refine o_q (q_lss rfl rfl) ?_
        refine JL.nil ?_
        by_cases c107 : ((i40 * x2) + i63) < (v51.length : Int)
        ·
          replace hm := ite_T c107 hm
          refine J.condT rfl (decide_eq_true c107) ?_
          obtain ⟨i109, x108, hi110, hl111, hx112, hm⟩ := nth_some hm
          obtain ⟨b113, o114, rfl⟩ := Sls.op f55 hl111
          obtain ⟨us115, hc116, hR117⟩ := Sls.at f55 hx112
          obtain rfl := KR.op hR117
          obtain ⟨k118, hm⟩ := chk64_some hm
          refine J.region ?_
          refine o_q (q_fa rfl) ?_
          refine o_q (q_ld rfl inferInstance rfl) ?_
          first | refine o_q (q_mvv (v := .int _ _) rfl) ?_ | refine o_q (q_mv) ?_
          first | refine o_q (q_mvv (v := .int _ _) rfl) ?_ | refine o_q (q_mv) ?_
          refine o_q (q_mul rfl rfl (wi64 k105)) ?_
          first | refine o_q (q_mvv (v := .int _ _) rfl) ?_ | refine o_q (q_mv) ?_
          refine o_q (q_add rfl rfl (wi64 k106)) ?_
          refine o_q (q_ian rfl rfl hi110 (by first | exact hl111 | (rw [Sls.len f55]; exact hl111))) ?_
          refine o_q (q_ldf rfl hc116) ?_
          refine o_q (q_rem rfl rfl (by decide) rfl) ?_
          refine o_q (q_cv rfl (wi64 k118)) ?_
          first | refine o_q (q_asv (v := .int _ _) rfl) ?_ | refine o_q (q_as) ?_
          refine JL.nil ?_
          exact ⟨⟨v51, Int.tmod x108 10, (some ⟨b113, o114, none⟩), n53, c54⟩, rfl, ⟨rfl, rfl, rfl, rfl, rfl, rfl, rfl, rfl, trivial⟩, ⟨rfl, trivial⟩, ⟨(Sls.mono f55), hm, inferInstance⟩, inferInstance⟩
        ·
          replace hm := ite_F c107 hm
          refine J.condF rfl (decide_eq_false c107) ?_
          refine J.skip ?_
          exact ⟨⟨v51, 0, p52, n53, c54⟩, rfl, ⟨rfl, rfl, rfl, rfl, rfl, rfl, rfl, rfl, trivial⟩, ⟨rfl, trivial⟩, ⟨(Sls.mono f55), hm, inferInstance⟩, inferInstance⟩
      ·
        rintro ⟨v72, v77, p73, n74, c75⟩ σq78 hq78 Lq78 sq78 ⟨f76, hm, hspq78⟩
        refine J.sp hspq78 ?_
        unfold M.torsionref06_Sized_j1 at hm
        obtain ⟨y90, e89, hm⟩ := bnd_some hm
        obtain ⟨l99, e100, hm⟩ := bnd_some hm
        refine J.region ?_
        first | refine o_q (q_mvv (v := .slice _ _ _) rfl) ?_ | refine o_q (q_mv) ?_
        first | refine o_q (q_mvv (v := .int _ _) rfl) ?_ | refine o_q (q_mv) ?_
        refine o_call (rof_fn e89) (fun v85 h86 s87 r88 => ?_)
        obtain ⟨g91, p92, n93, c94, rfl, f95⟩ := IntAt.op r88
        first | refine o_bs [.bool _, .slice _ _ _] (by decide) rfl (fun b96 => ?_) | refine o_bs [_, _] (by decide) rfl (fun b96 => ?_)
        refine JL.fact (fun h => Cells IntR 2 h [.bool g91, .slice p92 n93 c94] [y90]) (show Cells IntR 2 _ [.bool g91, .slice p92 n93 c94] [y90] from (Cells.cons (R := IntR) (us := [.bool g91, .slice p92 n93 c94]) rfl (Mo.up f95) Cells.nil)) (fun hc97 => ?_)
        refine JL.fact (fun h => OwnL IntR 37 2 h (.slice (some ⟨b96, 0, none⟩) 1 1) [y90] [(b96, row 37 [.bool g91, .slice p92 n93 c94])]) (OwnL.lit _ rfl hc97 rfl) (fun ho98 => ?_)
        refine o_appB (R := IntR) rfl rfl (OwnL.mono f60) inferInstance hc97 e100 (fun p101 c102 L103 ho104 => ?_)
        first | refine o_q (q_asv (v := .slice _ _ _) rfl) ?_ | refine o_q (q_as) ?_
        refine JL.nil ?_
        refine J.region ?_
        first | refine o_q (q_mvv (v := .int _ _) rfl) ?_ | refine o_q (q_mv) ?_
        refine o_q (q_add rfl rfl (wi64 k70)) ?_
        first | refine o_q (q_asv (v := .int _ _) rfl) ?_ | refine o_q (q_as) ?_
        refine JL.nil ?_
        replace hm := inl_onward hm hk68
        exact ⟨⟨i63 + 1, v72, l99, p73, n74, c75, p101, l99.length, c102, L103⟩, rfl, ⟨rfl, rfl, rfl, rfl, rfl, rfl, trivial⟩, ⟨rfl, rfl, trivial⟩, ⟨(Sls.mono f76), (OwnL.mono ho104), Int.le_trans hle66 (Int.le_of_lt (Int.lt_succ _)), hm, inferInstance⟩, (muN c69), inferInstance⟩
    ·
      replace hm := forN_ge c69 hm
      unfold M.torsionref06_Sized_k2 at hm
      refine J.condF rfl (decide_eq_false c69) ?_
      refine J.exit ?_
      refine J.fzO (R := IntR) (OwnL.mono f60) (fun h119 s120 f121 => ?_)
      obtain ⟨l125, e126, hm⟩ := bnd_some hm
      refine J.region ?_
      refine o_q (q_fa rfl) ?_
      refine o_q (q_ld rfl inferInstance rfl) ?_
      first | refine o_q (q_mvv (v := .slice _ _ _) rfl) ?_ | refine o_q (q_mv) ?_
      first | refine o_bs [.slice _ _ _] (by decide) rfl (fun b122 => ?_) | refine o_bs [_] (by decide) rfl (fun b122 => ?_)
      refine JL.fact (fun h => Cells (LR IntR 2) 1 h [.slice p57 n58 c59] [v56]) (show Cells (LR IntR 2) 1 _ [.slice p57 n58 c59] [v56] from (Cells.cons (R := (LR IntR 2)) (us := [.slice p57 n58 c59]) rfl ⟨_, _, _, rfl, Sls.mono f121⟩ Cells.nil)) (fun hc123 => ?_)
      refine JL.fact (fun h => OwnL (LR IntR 2) 32 1 h (.slice (some ⟨b122, 0, none⟩) 1 1) [v56] [(b122, row 32 [.slice p57 n58 c59])]) (OwnL.lit _ rfl hc123 rfl) (fun ho124 => ?_)
      refine o_appB (R := (LR IntR 2)) rfl rfl (OwnL.mono f37) inferInstance hc123 e126 (fun p127 c128 L129 ho130 => ?_)
      refine o_q (q_fa rfl) ?_
      first | refine o_stc (vs := [.slice _ _ _]) (l' := [.int _ _, .int _ _, .slice _ _ _]) rfl rfl rfl rfl rfl inferInstance rfl rfl ?_ | refine o_stc (vs := [_]) (l' := [_, _, _]) rfl rfl rfl rfl rfl inferInstance rfl rfl ?_
      refine JL.nil ?_
      refine J.region ?_
      first | refine o_q (q_mvv (v := .int _ _) rfl) ?_ | refine o_q (q_mv) ?_
      refine o_q (q_add rfl rfl (wi64 k47)) ?_
      first | refine o_q (q_asv (v := .int _ _) rfl) ?_ | refine o_q (q_as) ?_
      refine JL.nil ?_
      replace hm := inl_onward hm hk45
      exact ⟨⟨i40 + 1, v51, l125, p52, n53, c54, p127, l125.length, c128, L129⟩, rfl, ⟨rfl, rfl, rfl, rfl, rfl, trivial⟩, ⟨rfl, trivial⟩, ⟨(Sls.mono f55), (OwnL.mono ho130), Int.le_trans hle43 (Int.le_of_lt (Int.lt_succ _)), hm, inferInstance⟩, (muN c46), inferInstance⟩
  ·
    replace hm := forN_ge c46 hm
    unfold M.torsionref06_Sized_k3 at hm
    refine J.condF rfl (decide_eq_false c46) ?_
    refine J.exit ?_
    refine J.seq ?_
    refine J.region ?_
    refine o_q (q_lda (vs := [_, _, _]) rfl inferInstance ⟨rfl, rfl, rfl, trivial⟩) ?_
    first | refine o_stc (vs := [.int _ _, .int _ _, .slice _ _ _]) (l' := [.int _ _, .int _ _, .slice _ _ _]) rfl rfl rfl rfl rfl inferInstance rfl rfl ?_ | refine o_stc (vs := [_, _, _]) (l' := [_, _, _]) rfl rfl rfl rfl rfl inferInstance rfl rfl ?_
    refine JL.nil ?_
    refine J.fzO (R := (LR IntR 2)) (OwnL.mono f37) (fun h131 s132 f133 => ?_)
    refine J.ret ?_
    obtain rfl := Option.some.inj hm
    exact ret_ok (fn := Try.f28) rfl (.agg rfl inferInstance inferInstance .nil) ⟨_, rfl, ⟨_, _, _, rfl, Sls.mono f133⟩⟩
set_option maxHeartbeats 4000000 in
theorem torsionref06_Made_fn {h : Heap} {x0 : R06Raw} {x1 : Int} {v0 : Value} (r0 : AggV R06RawR h v0 x0) {r : TMat} (hm : M.torsionref06_Made x0 x1 = some r) :
    Fn Try.prog 22 #[v0, .int .i64 x1] h fun v h' => AggV TMatR h' v r := by
  obtain ⟨_, rfl, p21, n22, c23, rfl, f24⟩ := r0
  refine Fn.intro (args := [_, _]) Try.func22 rfl rfl (Nat.le_of_ble_eq_true rfl) fun w => ?_
  unfold M.torsionref06_Made at hm
  refine J.seq ?_
  refine J.region ?_
  first | refine o_bx (v := .agg ⟨[.int _ _, .int _ _, .slice _ _ _]⟩) rfl rfl (fun b25 => ?_) | refine o_bx rfl rfl (fun b25 => ?_)
  refine o_al (fun b26 => ?_)
  refine JL.nil ?_
  refine J.seq ?_
  obtain ⟨k27, hm⟩ := chk64_some hm
  obtain ⟨k28, hm⟩ := chk64_some hm
  obtain ⟨k29, hm⟩ := chk_some hm
  obtain ⟨k30, hm⟩ := chk64_some hm
  obtain ⟨k31, hm⟩ := chk_some hm
  obtain ⟨y37, e36, hm⟩ := bnd_some hm
  refine J.drawB [b25] [] ?_
  refine JD.loadB 0 (by kernel_rfl) rfl trivial (q_lda (vs := [_, _, _]) rfl inferInstance ⟨rfl, rfl, rfl, trivial⟩) ?_
  refine JD.calc 1 (by kernel_rfl) rfl trivial ss_subB (q_fa rfl) ?_
  refine JD.loadB 2 (by kernel_rfl) rfl trivial (q_ld rfl inferInstance rfl) ?_
  refine JD.calc 3 (by kernel_rfl) rfl trivial ss_subB (q_cv rfl (wi64 k27)) ?_
  first | refine JD.calc 4 (by kernel_rfl) rfl trivial ss_subB (q_mvv (v := .int _ _) rfl) ?_ | refine JD.calc 4 (by kernel_rfl) rfl trivial ss_subB (q_mv) ?_
  refine JD.calc 5 (by kernel_rfl) rfl trivial ss_subB (q_add rfl rfl (wi64 k28)) ?_
  refine JD.calc 6 (by kernel_rfl) rfl trivial ss_subB (q_rem rfl rfl k29 rfl) ?_
  refine JD.calc 7 (by kernel_rfl) rfl trivial ss_subB (q_fa rfl) ?_
  refine JD.loadB 8 (by kernel_rfl) rfl trivial (q_ld rfl inferInstance rfl) ?_
  refine JD.calc 9 (by kernel_rfl) rfl trivial ss_subB (q_cv rfl (wi64 k30)) ?_
  first | refine JD.calc 10 (by kernel_rfl) rfl trivial ss_subB (q_mvv (v := .int _ _) rfl) ?_ | refine JD.calc 10 (by kernel_rfl) rfl trivial ss_subB (q_mv) ?_
  refine JD.calc 11 (by kernel_rfl) rfl trivial ss_subB (q_add rfl rfl (wi64 k28)) ?_
  refine JD.calc 12 (by kernel_rfl) rfl trivial ss_subB (q_rem rfl rfl k31 rfl) ?_
  refine JD.one 13 (by kernel_rfl) ?_
  refine JX.effB rfl rfl trivial ?_
  refine o_call (torsionref06_Sized_fn ⟨_, rfl, ⟨_, _, _, rfl, Sls.mono f24⟩⟩ e36) (fun v32 h33 s34 r35 => ?_)
  obtain ⟨_, rfl, p38, n39, c40, rfl, f41⟩ := r35
  refine JL.nil ⟨rfl, inferInstance, inferInstance, ?_⟩
  refine JD.one 14 (by kernel_rfl) ?_
  refine JX.effB rfl rfl trivial ?_
  first | refine o_stc (vs := [.int _ _, .int _ _, .slice _ _ _]) (l' := [.int _ _, .int _ _, .slice _ _ _]) rfl rfl rfl rfl rfl inferInstance rfl rfl ?_ | refine o_stc (vs := [_, _, _]) (l' := [_, _, _]) rfl rfl rfl rfl rfl inferInstance rfl rfl ?_
  refine JL.nil ⟨rfl, inferInstance, inferInstance, ?_⟩
  refine JD.done (by kernel_rfl) ?_ _
  --
  refine J.ret ?_
  obtain rfl := Option.some.inj hm
  exact ret_ok (fn := Try.f22) rfl (.agg rfl inferInstance inferInstance .nil) ⟨_, rfl, ⟨_, _, _, rfl, Sls.mono f41⟩⟩
set_option maxHeartbeats 4000000 in
theorem torsionref06_Row_fn {h : Heap} {x0 : List Int} {v0 : Value} (r0 : Sls IntR 2 h v0 x0) {r : (List TTerm)} (hm : M.torsionref06_Row x0 = some r) :
    Fn Try.prog 12 #[v0] h fun v h' => Sls TTermR 3 h' v r := by
  obtain ⟨p21, n22, c23, rfl, f24⟩ := Sls.op3 r0
  refine Fn.intro (args := [_]) Try.func12 rfl rfl (Nat.le_of_ble_eq_true rfl) fun w => ?_
  unfold M.torsionref06_Row at hm
  refine J.seq ?_
  refine J.region ?_
  first | refine o_q (q_asv (v := .slice _ _ _) rfl) ?_ | refine o_q (q_as) ?_
  refine JL.nil ?_
  refine J.seq ?_
  refine J.region ?_
  first | refine o_bs [] (by decide) rfl (fun b25 => ?_) | refine o_bs [] (by decide) rfl (fun b25 => ?_)
  refine JL.fact (fun h => Cells TTermR 3 h [] ([] : List TTerm)) (show Cells TTermR 3 _ [] ([] : List TTerm) from Cells.nil) (fun hc26 => ?_)
  refine JL.fact (fun h => OwnL TTermR 71 3 h (.slice (some ⟨b25, 0, none⟩) 0 0) ([] : List TTerm) [(b25, row 71 [])]) (OwnL.lit _ rfl hc26 rfl) (fun ho27 => ?_)
  first | refine o_q (q_asv (v := .slice _ _ _) rfl) ?_ | refine o_q (q_as) ?_
  refine JL.nil ?_
  refine J.seq ?_
  refine J.seq ?_
  refine J.region ?_
  first | refine o_q (q_asv (v := .int _ _) rfl) ?_ | refine o_q (q_as) ?_
  refine JL.nil ?_
  refine J.block ?_
  obtain ⟨hl36, hm⟩ := rngL_some hm
  refine J.loopK (α := Nat × (List TTerm) × (Option Addr) × Nat × Nat × Own) (fun ⟨i35, v28, p29, n30, c31, L33⟩ h' L' => OwnL TTermR 71 3 h' (.slice p29 n30 c31) v28 L33 ∧ forL M.torsionref06_Row_b1 M.torsionref06_Row_k1 (List.drop i35 x0) i35 v28 = some r ∧ Sp (L33 ++ ([])) L') [(0, .slice _ _ _)] ⟨rfl, trivial⟩ (fun ⟨i35, v28, p29, n30, c31, L33⟩ => [(3, .slice p29 n30 c31), (4, .int .i64 (i35 : Int))]) (fun ⟨i35, v28, p29, n30, c31, L33⟩ => x0.length - i35) ⟨0, ([] : List TTerm), (some ⟨b25, 0, none⟩), 0, 0, [(b25, row 71 [])]⟩ ⟨(OwnL.mono ho27), hm, inferInstance⟩ ⟨rfl, rfl, trivial⟩ ?_
  rintro ⟨i35, v28, p29, n30, c31, L33⟩ σq37 hq37 Lq37 sq37 ⟨f32, hm, hspq37⟩
  refine J.sp hspq37 ?_
  refine J.seq ?_
  refine J.seq ?_
  refine J.region ?_
  first | refine o_q (q_mvv (v := .int _ _) rfl) ?_ | refine o_q (q_mv) ?_
  first | refine o_q (q_mvv (v := .slice _ _ _) rfl) ?_ | refine o_q (q_mv) ?_
  refine o_q (q_lenE (k := x0.length) rfl (Sls.len f24)) ?_
  refine o_q (q_lss rfl rfl) ?_
  refine JL.nil ?_
  by_cases c41 : (i35 : Int) < (x0.length : Int)
  ·
    obtain ⟨x42, o39, hl43, hx44, hm, hk40⟩ := forL_cons c41 hm
    unfold M.torsionref06_Row_b1 at hm
    refine J.condT rfl (decide_eq_true c41) ?_
    have k45 : -9223372036854775808 ≤ (i35 : Int) + 1 ∧ (i35 : Int) + 1 ≤ 9223372036854775807 := by omega
    refine J.skip ?_
    refine J.seq ?_
    refine J.block ?_
    refine J.seq ?_
    obtain ⟨b46, o47, rfl⟩ := Sls.op f24 hl43
    obtain ⟨us48, hc49, hR50⟩ := Sls.at f24 hx44
    obtain ⟨g51, p52, n53, c54, rfl, f55⟩ := IntR.op hR50
    obtain ⟨y61, e60, hm⟩ := bnd_some hm
    refine J.region ?_
    first | refine o_q (q_mvv (v := .slice _ _ _) rfl) ?_ | refine o_q (q_mv) ?_
    first | refine o_q (q_mvv (v := .int _ _) rfl) ?_ | refine o_q (q_mv) ?_
    refine o_q (q_ian rfl rfl rfl (by first | exact hl43 | (rw [Sls.len f24]; exact hl43))) ?_
    refine o_q (q_ldfa rfl hc49) ?_
    refine o_call (rsign_fn (IntR.at (Mo.up f55)) e60) (fun v56 h57 s58 r59 => ?_)
    obtain rfl := (show _ = _ from r59)
    refine o_q (q_neq rfl rfl) ?_
    refine JL.nil ?_
    by_cases c62 : y61 = 0
    ·
      replace hm := ite_T c62 hm
      refine J.condF rfl (decide_eq_false (fun z => z c62)) ?_
      refine J.skip ?_
      refine J.region ?_
      first | refine o_q (q_mvv (v := .int _ _) rfl) ?_ | refine o_q (q_mv) ?_
      refine o_q (q_add rfl rfl (wi64 k45)) ?_
      first | refine o_q (q_asv (v := .int _ _) rfl) ?_ | refine o_q (q_as) ?_
      refine JL.nil ?_
      replace hm := inl_onward hm hk40
      exact ⟨⟨i35 + 1, v28, p29, n30, c31, L33⟩, rfl, ⟨rfl, trivial⟩, ⟨rfl, rfl, trivial⟩, ⟨(OwnL.mono f32), hm, inferInstance⟩, (muL hl43), inferInstance⟩
    ·
      replace hm := ite_F c62 hm
      refine J.condT rfl (decide_eq_true c62) ?_
      obtain ⟨l69, e70, hm⟩ := bnd_some hm
      refine J.region ?_
      first | refine o_q (q_mvv (v := .slice _ _ _) rfl) ?_ | refine o_q (q_mv) ?_
      first | refine o_q (q_mvv (v := .int _ _) rfl) ?_ | refine o_q (q_mv) ?_
      first | refine o_q (q_mvv (v := .slice _ _ _) rfl) ?_ | refine o_q (q_mv) ?_
      first | refine o_q (q_mvv (v := .int _ _) rfl) ?_ | refine o_q (q_mv) ?_
      refine o_q (q_ian rfl rfl rfl (by first | exact hl43 | (rw [Sls.len f24]; exact hl43))) ?_
      refine o_q (q_ldfa rfl hc49) ?_
      first | refine o_q (q_bd [.int _ _, .bool _, .slice _ _ _] rfl) ?_ | refine o_q (q_bd [_, _, _] rfl) ?_
      first | refine o_bs [.int _ _, .bool _, .slice _ _ _] (by decide) rfl (fun b66 => ?_) | refine o_bs [_, _, _] (by decide) rfl (fun b66 => ?_)
      refine JL.fact (fun h => Cells TTermR 3 h [.int .i64 (i35 : Int), .bool g51, .slice p52 n53 c54] [(TTerm.mk (i35 : Int) x42)]) (show Cells TTermR 3 _ [.int .i64 (i35 : Int), .bool g51, .slice p52 n53 c54] [(TTerm.mk (i35 : Int) x42)] from (Cells.cons (R := TTermR) (us := [.int .i64 (i35 : Int), .bool g51, .slice p52 n53 c54]) rfl ⟨_, _, _, _, rfl, (Mo.up f55)⟩ Cells.nil)) (fun hc67 => ?_)
      refine JL.fact (fun h => OwnL TTermR 71 3 h (.slice (some ⟨b66, 0, none⟩) 1 1) [(TTerm.mk (i35 : Int) x42)] [(b66, row 71 [.int .i64 (i35 : Int), .bool g51, .slice p52 n53 c54])]) (OwnL.lit _ rfl hc67 rfl) (fun ho68 => ?_)
      refine o_appB (R := TTermR) rfl rfl (OwnL.mono f32) inferInstance hc67 e70 (fun p71 c72 L73 ho74 => ?_)
      first | refine o_q (q_asv (v := .slice _ _ _) rfl) ?_ | refine o_q (q_as) ?_
      refine JL.nil ?_
      refine J.region ?_
      first | refine o_q (q_mvv (v := .int _ _) rfl) ?_ | refine o_q (q_mv) ?_
      refine o_q (q_add rfl rfl (wi64 k45)) ?_
      first | refine o_q (q_asv (v := .int _ _) rfl) ?_ | refine o_q (q_as) ?_
      refine JL.nil ?_
      replace hm := inl_onward hm hk40
      exact ⟨⟨i35 + 1, l69, p71, l69.length, c72, L73⟩, rfl, ⟨rfl, trivial⟩, ⟨rfl, rfl, trivial⟩, ⟨(OwnL.mono ho74), hm, inferInstance⟩, (muL hl43), inferInstance⟩
  ·
    replace hm := forL_nil c41 hm
    unfold M.torsionref06_Row_k1 at hm
    refine J.condF rfl (decide_eq_false c41) ?_
    refine J.exit ?_
    refine J.seq ?_
    refine J.region ?_
    first | refine o_q (q_mvv (v := .slice _ _ _) rfl) ?_ | refine o_q (q_mv) ?_
    first | refine o_q (q_asv (v := .slice _ _ _) rfl) ?_ | refine o_q (q_as) ?_
    refine JL.nil ?_
    refine J.fzO (R := TTermR) (OwnL.mono f32) (fun h75 s76 f77 => ?_)
    refine J.ret ?_
    obtain rfl := Option.some.inj hm
    exact ret_ok (fn := Try.f12) rfl (.tmp rfl .nil) (Sls.mono f77)
set_option maxHeartbeats 4000000 in
theorem torsionref06_From_fn {h : Heap} {x0 : TMat} {v0 : Value} (r0 : AggV TMatR h v0 x0) {r : TSparse} (hm : M.torsionref06_From x0 = some r) :
    Fn Try.prog 21 #[v0] h fun v h' => AggV TSparseR h' v r := by
  obtain ⟨_, rfl, p21, n22, c23, rfl, f24⟩ := r0
  refine Fn.intro (args := [_]) Try.func21 rfl rfl (Nat.le_of_ble_eq_true rfl) fun w => ?_
  unfold M.torsionref06_From at hm
  refine J.seq ?_
  refine J.region ?_
  first | refine o_bx (v := .agg ⟨[.int _ _, .int _ _, .slice _ _ _]⟩) rfl rfl (fun b25 => ?_) | refine o_bx rfl rfl (fun b25 => ?_)
  refine o_al (fun b26 => ?_)
  refine JL.nil ?_
  refine J.seq ?_
  refine J.region ?_
  refine o_q (q_fa rfl) ?_
  refine o_q (q_ld rfl inferInstance rfl) ?_
  refine o_q (q_fa rfl) ?_
  refine o_q (q_ld rfl inferInstance rfl) ?_
  first | refine o_q (q_bd [.int _ _, .int _ _, .slice _ _ _] rfl) ?_ | refine o_q (q_bd [_, _, _] rfl) ?_
  refine o_al (fun b27 => ?_)
  first | refine o_stc (vs := [.int _ _, .int _ _, .slice _ _ _]) (l' := [.int _ _, .int _ _, .slice _ _ _]) rfl rfl rfl rfl rfl inferInstance rfl rfl ?_ | refine o_stc (vs := [_, _, _]) (l' := [_, _, _]) rfl rfl rfl rfl rfl inferInstance rfl rfl ?_
  refine JL.nil ?_
  refine J.seq ?_
  refine J.seq ?_
  refine J.region ?_
  first | refine o_q (q_asv (v := .int _ _) rfl) ?_ | refine o_q (q_as) ?_
  refine JL.nil ?_
  refine J.block ?_
  obtain ⟨k36, hm⟩ := rngN_some hm
  refine J.loopK (α := Int × (List (List TTerm)) × (Option Addr) × Nat × Nat × Own) (fun ⟨i35, v28, p29, n30, c31, L33⟩ h' L' => OwnL (LR TTermR 3) 26 1 h' (.slice p29 n30 c31) v28 L33 ∧ 0 ≤ i35 ∧ forN (M.torsionref06_From_b1 x0) (M.torsionref06_From_k1 x0) x0.Rows i35 v28 = some r ∧ Sp (L33 ++ ([(b25, row 50 [.int .i64 x0.Rows, .int .i64 x0.Cols, .slice p21 n22 c23]), (b26, row 24 [.int .i64 0, .int .i64 0, .slice none 0 0]), (b27, row 24 [.int .i64 x0.Rows, .int .i64 x0.Cols, .slice p29 n30 c31])])) L') [(1, .pointer _), (2, .pointer _), (3, .pointer _)] ⟨rfl, rfl, rfl, trivial⟩ (fun ⟨i35, v28, p29, n30, c31, L33⟩ => [(4, .int .i64 i35)]) (fun ⟨i35, v28, p29, n30, c31, L33⟩ => (x0.Rows - i35).toNat) ⟨0, ([] : List (List TTerm)), none, 0, 0, []⟩ ⟨(OwnL.nil _), Int.le_refl _, hm, inferInstance⟩ ⟨rfl, trivial⟩ ?_
  rintro ⟨i35, v28, p29, n30, c31, L33⟩ σq37 hq37 Lq37 sq37 ⟨f32, hle38, hm, hspq37⟩
  refine J.sp hspq37 ?_
  refine J.seq ?_
  refine J.seq ?_
  refine J.region ?_
  first | refine o_q (q_mvv (v := .int _ _) rfl) ?_ | refine o_q (q_mv) ?_
  refine o_q (q_fa rfl) ?_
  refine o_q (q_ld rfl inferInstance rfl) ?_
  refine o_q (q_lss rfl rfl) ?_
  refine JL.nil ?_
  by_cases c41 : i35 < x0.Rows
  ·
    obtain ⟨o39, hm, hk40⟩ := forN_lt c41 hm
    unfold M.torsionref06_From_b1 at hm
    refine J.condT rfl (decide_eq_true c41) ?_
    have k42 : -9223372036854775808 ≤ i35 + 1 ∧ i35 + 1 ≤ 9223372036854775807 := by omega
    refine J.skip ?_
    refine J.seq ?_
    refine J.block ?_
    obtain ⟨i44, x43, hi45, hl46, hx47, hm⟩ := nth_some hm
    obtain ⟨b48, o49, rfl⟩ := Sls.op f24 hl46
    obtain ⟨us50, hc51, hR52⟩ := Sls.at f24 hx47
    obtain ⟨p53, n54, c55, rfl, f56⟩ := hR52
    obtain ⟨y62, e61, hm⟩ := bnd_some hm
    obtain ⟨l70, e71, hm⟩ := bnd_some hm
    refine J.drawB [b27, b25] [11] ?_
    refine JD.calc 0 (by kernel_rfl) rfl trivial ss_subB (q_fa rfl) ?_
    refine JD.loadB 1 (by kernel_rfl) rfl trivial (q_ld rfl inferInstance rfl) ?_
    refine JD.calc 2 (by kernel_rfl) rfl trivial ss_subB (q_fa rfl) ?_
    refine JD.loadB 3 (by kernel_rfl) rfl trivial (q_ld rfl inferInstance rfl) ?_
    first | refine JD.calc 4 (by kernel_rfl) rfl trivial ss_subB (q_mvv (v := .int _ _) rfl) ?_ | refine JD.calc 4 (by kernel_rfl) rfl trivial ss_subB (q_mv) ?_
    refine JD.calc 5 (by kernel_rfl) rfl trivial ss_subB (q_ian rfl rfl hi45 (by first | exact hl46 | (rw [Sls.len f24]; exact hl46))) ?_
    refine JD.loadB 6 (by kernel_rfl) rfl trivial (q_ldf rfl hc51) ?_
    refine JD.one 7 (by kernel_rfl) ?_
    refine JX.effB rfl rfl trivial ?_
    refine o_call (torsionref06_Row_fn (Sls.mono f56) e61) (fun v57 h58 s59 r60 => ?_)
    obtain ⟨p63, n64, c65, rfl, f66⟩ := Sls.op3 r60
    refine JL.nil ⟨rfl, inferInstance, inferInstance, ?_⟩
    refine JD.one 8 (by kernel_rfl) ?_
    refine JX.effB rfl rfl trivial ?_
    first | refine o_bs [.slice _ _ _] (by decide) rfl (fun b67 => ?_) | refine o_bs [_] (by decide) rfl (fun b67 => ?_)
    refine JL.fact (fun h => Cells (LR TTermR 3) 1 h [.slice p63 n64 c65] [y62]) (show Cells (LR TTermR 3) 1 _ [.slice p63 n64 c65] [y62] from (Cells.cons (R := (LR TTermR 3)) (us := [.slice p63 n64 c65]) rfl ⟨_, _, _, rfl, Sls.mono f66⟩ Cells.nil)) (fun hc68 => ?_)
    refine JL.fact (fun h => OwnL (LR TTermR 3) 26 1 h (.slice (some ⟨b67, 0, none⟩) 1 1) [y62] [(b67, row 26 [.slice p63 n64 c65])]) (OwnL.lit _ rfl hc68 rfl) (fun ho69 => ?_)
    refine JL.nil ⟨rfl, inferInstance, inferInstance, ?_⟩
    refine JD.one 9 (by kernel_rfl) ?_
    refine JX.effB rfl rfl trivial ?_
    refine o_appB (R := (LR TTermR 3)) rfl rfl (OwnL.mono f32) inferInstance hc68 e71 (fun p72 c73 L74 ho75 => ?_)
    refine JL.nil ⟨rfl, inferInstance, inferInstance, ?_⟩
    refine JD.calc 10 (by kernel_rfl) rfl trivial ss_subB (q_fa rfl) ?_
    refine JD.one 11 (by kernel_rfl) ?_
    refine JX.mut rfl rfl trivial ?_
    first | refine o_stc (vs := [.slice _ _ _]) (l' := [.int _ _, .int _ _, .slice _ _ _]) rfl rfl rfl rfl rfl inferInstance rfl rfl ?_ | refine o_stc (vs := [_]) (l' := [_, _, _]) rfl rfl rfl rfl rfl inferInstance rfl rfl ?_
    refine JL.nil ⟨rfl, ?_⟩
    refine JD.done (by kernel_rfl) ?_ _
    --
    refine J.region ?_
    first | refine o_q (q_mvv (v := .int _ _) rfl) ?_ | refine o_q (q_mv) ?_
    refine o_q (q_add rfl rfl (wi64 k42)) ?_
    first | refine o_q (q_asv (v := .int _ _) rfl) ?_ | refine o_q (q_as) ?_
    refine JL.nil ?_
    replace hm := inl_onward hm hk40
    exact ⟨⟨i35 + 1, l70, p72, l70.length, c73, L74⟩, rfl, ⟨rfl, rfl, rfl, trivial⟩, ⟨rfl, trivial⟩, ⟨(OwnL.mono ho75), Int.le_trans hle38 (Int.le_of_lt (Int.lt_succ _)), hm, inferInstance⟩, (muN c41), inferInstance⟩
  ·
    replace hm := forN_ge c41 hm
    unfold M.torsionref06_From_k1 at hm
    refine J.condF rfl (decide_eq_false c41) ?_
    refine J.exit ?_
    refine J.seq ?_
    refine J.region ?_
    refine o_q (q_lda (vs := [_, _, _]) rfl inferInstance ⟨rfl, rfl, rfl, trivial⟩) ?_
    first | refine o_stc (vs := [.int _ _, .int _ _, .slice _ _ _]) (l' := [.int _ _, .int _ _, .slice _ _ _]) rfl rfl rfl rfl rfl inferInstance rfl rfl ?_ | refine o_stc (vs := [_, _, _]) (l' := [_, _, _]) rfl rfl rfl rfl rfl inferInstance rfl rfl ?_
    refine JL.nil ?_
    refine J.fzO (R := (LR TTermR 3)) (OwnL.mono f32) (fun h76 s77 f78 => ?_)
    refine J.ret ?_
    obtain rfl := Option.some.inj hm
    exact ret_ok (fn := Try.f21) rfl (.agg rfl inferInstance inferInstance .nil) ⟨_, rfl, ⟨_, _, _, rfl, Sls.mono f78⟩⟩
set_option maxHeartbeats 4000000 in
theorem torsionref06_Full_fn {h : Heap} {x0 : List TTerm} {x1 : Int} {v0 : Value} (r0 : Sls TTermR 3 h v0 x0) {r : (List Int)} (hm : M.torsionref06_Full x0 x1 = some r) :
    Fn Try.prog 32 #[v0, .int .i64 x1] h fun v h' => Sls IntR 2 h' v r := by
  obtain ⟨p21, n22, c23, rfl, f24⟩ := Sls.op3 r0
  refine Fn.intro (args := [_, _]) Try.func32 rfl rfl (Nat.le_of_ble_eq_true rfl) fun w => ?_
  unfold M.torsionref06_Full at hm
  refine J.seq ?_
  refine J.region ?_
  first | refine o_q (q_asv (v := .slice _ _ _) rfl) ?_ | refine o_q (q_as) ?_
  refine JL.nil ?_
  refine J.seq ?_
  refine J.region ?_
  first | refine o_bs [] (by decide) rfl (fun b25 => ?_) | refine o_bs [] (by decide) rfl (fun b25 => ?_)
  refine JL.fact (fun h => Cells IntR 2 h [] ([] : List Int)) (show Cells IntR 2 _ [] ([] : List Int) from Cells.nil) (fun hc26 => ?_)
  refine JL.fact (fun h => OwnL IntR 37 2 h (.slice (some ⟨b25, 0, none⟩) 0 0) ([] : List Int) [(b25, row 37 [])]) (OwnL.lit _ rfl hc26 rfl) (fun ho27 => ?_)
  first | refine o_q (q_asv (v := .slice _ _ _) rfl) ?_ | refine o_q (q_as) ?_
  refine JL.nil ?_
  refine J.seq ?_
  refine J.seq ?_
  refine J.region ?_
  first | refine o_q (q_asv (v := .int _ _) rfl) ?_ | refine o_q (q_as) ?_
  refine JL.nil ?_
  refine J.block ?_
  obtain ⟨k36, hm⟩ := rngN_some hm
  refine J.loopK (α := Int × (List Int) × (Option Addr) × Nat × Nat × Own) (fun ⟨i35, v28, p29, n30, c31, L33⟩ h' L' => OwnL IntR 37 2 h' (.slice p29 n30 c31) v28 L33 ∧ 0 ≤ i35 ∧ forN (M.torsionref06_Full_b2 x0) M.torsionref06_Full_k2 x1 i35 v28 = some r ∧ Sp (L33 ++ ([])) L') [(0, .slice _ _ _), (1, .int _ _)] ⟨rfl, rfl, trivial⟩ (fun ⟨i35, v28, p29, n30, c31, L33⟩ => [(5, .slice p29 n30 c31), (6, .int .i64 i35)]) (fun ⟨i35, v28, p29, n30, c31, L33⟩ => (x1 - i35).toNat) ⟨0, ([] : List Int), (some ⟨b25, 0, none⟩), 0, 0, [(b25, row 37 [])]⟩ ⟨(OwnL.mono ho27), Int.le_refl _, hm, inferInstance⟩ ⟨rfl, rfl, trivial⟩ ?_
  rintro ⟨i35, v28, p29, n30, c31, L33⟩ σq37 hq37 Lq37 sq37 ⟨f32, hle38, hm, hspq37⟩
  refine J.sp hspq37 ?_
  refine J.seq ?_
  refine J.seq ?_
  refine J.region ?_
  first | refine o_q (q_mvv (v := .int _ _) rfl) ?_ | refine o_q (q_mv) ?_
  first | refine o_q (q_mvv (v := .int _ _) rfl) ?_ | refine o_q (q_mv) ?_
  refine o_q (q_lss rfl rfl) ?_
  refine JL.nil ?_
  by_cases c41 : i35 < x1
  ·
    obtain ⟨o39, hm, hk40⟩ := forN_lt c41 hm
    unfold M.torsionref06_Full_b2 at hm
    refine J.condT rfl (decide_eq_true c41) ?_
    have k42 : -9223372036854775808 ≤ i35 + 1 ∧ i35 + 1 ≤ 9223372036854775807 := by omega
    refine J.skip ?_
    refine J.seq ?_
    refine J.block ?_
    refine J.seq ?_
    obtain ⟨y48, e47, hm⟩ := bnd_some hm
    refine J.region ?_
    refine o_call (torsionref06_zero_fn e47) (fun v43 h44 s45 r46 => ?_)
    obtain ⟨g49, p50, n51, c52, rfl, f53⟩ := IntAt.op r46
    refine o_al (fun b54 => ?_)
    first | refine o_stc (vs := [.bool _, .slice _ _ _]) (l' := [.bool _, .slice _ _ _]) rfl rfl rfl rfl rfl inferInstance rfl rfl ?_ | refine o_stc (vs := [_, _]) (l' := [_, _]) rfl rfl rfl rfl rfl inferInstance rfl rfl ?_
    refine JL.nil ?_
    refine J.seq ?_
    refine J.seq ?_
    refine J.region ?_
    first | refine o_q (q_asv (v := .int _ _) rfl) ?_ | refine o_q (q_as) ?_
    refine JL.nil ?_
    refine J.block ?_
    obtain ⟨hl63, hm⟩ := rngL_some hm
    refine J.loopK (α := Nat × Int × Bool × (Option Addr) × Nat × Nat) (fun ⟨i62, v55, g56, p57, n58, c59⟩ h' L' => IntR h' [.bool g56, .slice p57 n58 c59] v55 ∧ forL (M.torsionref06_Full_b1 i35) (M.torsionref06_Full_k1 v28) (List.drop i62 x0) i62 v55 = some o39 ∧ Sp (L33 ++ ([(b54, row 37 [.bool g56, .slice p57 n58 c59])])) L') [(0, .slice _ _ _), (1, .int _ _), (5, .slice _ _ _), (6, .int _ _), (7, .pointer _)] ⟨rfl, rfl, rfl, rfl, rfl, trivial⟩ (fun ⟨i62, v55, g56, p57, n58, c59⟩ => [(8, .int .i64 (i62 : Int))]) (fun ⟨i62, v55, g56, p57, n58, c59⟩ => x0.length - i62) ⟨0, y48, g49, p50, n51, c52⟩ ⟨(Mo.up f53), hm, inferInstance⟩ ⟨rfl, trivial⟩ ?_
    rintro ⟨i62, v55, g56, p57, n58, c59⟩ σq64 hq64 Lq64 sq64 ⟨f60, hm, hspq64⟩
    refine J.sp hspq64 ?_
    refine J.seq ?_
    refine J.seq ?_
    refine J.region ?_
    first | refine o_q (q_mvv (v := .int _ _) rfl) ?_ | refine o_q (q_mv) ?_
    first | refine o_q (q_mvv (v := .slice _ _ _) rfl) ?_ | refine o_q (q_mv) ?_
    refine o_q (q_lenE (k := x0.length) rfl (Sls.len f24)) ?_
    refine o_q (q_lss rfl rfl) ?_
    refine JL.nil ?_
    by_cases c68 : (i62 : Int) < (x0.length : Int)
    ·
      obtain ⟨x69, o66, hl70, hx71, hm, hk67⟩ := forL_cons c68 hm
      unfold M.torsionref06_Full_b1 at hm
      refine J.condT rfl (decide_eq_true c68) ?_
      have k72 : -9223372036854775808 ≤ (i62 : Int) + 1 ∧ (i62 : Int) + 1 ≤ 9223372036854775807 := by omega
      refine J.skip ?_
      refine J.seq ?_
      refine J.block ?_
      refine J.seq ?_
      obtain ⟨b73, o74, rfl⟩ := Sls.op f24 hl70
      obtain ⟨us75, hc76, hR77⟩ := Sls.at f24 hx71
      obtain ⟨g78, p79, n80, c81, rfl, f82⟩ := hR77
      refine J.region ?_
      first | refine o_q (q_mvv (v := .slice _ _ _) rfl) ?_ | refine o_q (q_mv) ?_
      first | refine o_q (q_mvv (v := .int _ _) rfl) ?_ | refine o_q (q_mv) ?_
      refine o_q (q_ian rfl rfl rfl (by first | exact hl70 | (rw [Sls.len f24]; exact hl70))) ?_
      refine o_q (q_fa rfl) ?_
      refine o_q (q_ldf rfl (hc76.cell (j := 0) rfl)) ?_
      first | refine o_q (q_mvv (v := .int _ _) rfl) ?_ | refine o_q (q_mv) ?_
      refine o_q (q_eql rfl rfl) ?_
      refine JL.nil ?_
      by_cases c83 : x69.Col = i35
      ·
        replace hm := ite_T c83 hm
        refine J.condT rfl (decide_eq_true c83) ?_
        refine J.region ?_
        first | refine o_q (q_mvv (v := .slice _ _ _) rfl) ?_ | refine o_q (q_mv) ?_
        first | refine o_q (q_mvv (v := .int _ _) rfl) ?_ | refine o_q (q_mv) ?_
        refine o_q (q_ian rfl rfl rfl (by first | exact hl70 | (rw [Sls.len f24]; exact hl70))) ?_
        refine o_q (q_fa rfl) ?_
        refine o_q (q_ldfs (vs := [_, _]) rfl hc76 rfl) ?_
        first | refine o_stc (vs := [.bool _, .slice _ _ _]) (l' := [.bool _, .slice _ _ _]) rfl rfl rfl rfl rfl inferInstance rfl rfl ?_ | refine o_stc (vs := [_, _]) (l' := [_, _]) rfl rfl rfl rfl rfl inferInstance rfl rfl ?_
        refine JL.nil ?_
        refine J.region ?_
        first | refine o_q (q_mvv (v := .int _ _) rfl) ?_ | refine o_q (q_mv) ?_
        refine o_q (q_add rfl rfl (wi64 k72)) ?_
        first | refine o_q (q_asv (v := .int _ _) rfl) ?_ | refine o_q (q_as) ?_
        refine JL.nil ?_
        replace hm := inl_onward hm hk67
        exact ⟨⟨i62 + 1, x69.V, g78, p79, n80, c81⟩, rfl, ⟨rfl, rfl, rfl, rfl, rfl, trivial⟩, ⟨rfl, trivial⟩, ⟨(Mo.up f82), hm, inferInstance⟩, (muL hl70), inferInstance⟩
      ·
        replace hm := ite_F c83 hm
        refine J.condF rfl (decide_eq_false c83) ?_
        refine J.skip ?_
        refine J.region ?_
        first | refine o_q (q_mvv (v := .int _ _) rfl) ?_ | refine o_q (q_mv) ?_
        refine o_q (q_add rfl rfl (wi64 k72)) ?_
        first | refine o_q (q_asv (v := .int _ _) rfl) ?_ | refine o_q (q_as) ?_
        refine JL.nil ?_
        replace hm := inl_onward hm hk67
        exact ⟨⟨i62 + 1, v55, g56, p57, n58, c59⟩, rfl, ⟨rfl, rfl, rfl, rfl, rfl, trivial⟩, ⟨rfl, trivial⟩, ⟨(Mo.up f60), hm, inferInstance⟩, (muL hl70), inferInstance⟩
    ·
      replace hm := forL_nil c68 hm
      unfold M.torsionref06_Full_k1 at hm
      refine J.condF rfl (decide_eq_false c68) ?_
      refine J.exit ?_
      obtain ⟨l90, e91, hm⟩ := bnd_some hm
      refine J.region ?_
      first | refine o_q (q_mvv (v := .slice _ _ _) rfl) ?_ | refine o_q (q_mv) ?_
      refine o_q (q_lda (vs := [_, _]) rfl inferInstance ⟨rfl, rfl, trivial⟩) ?_
      first | refine o_bs [.bool _, .slice _ _ _] (by decide) rfl (fun b87 => ?_) | refine o_bs [_, _] (by decide) rfl (fun b87 => ?_)
      refine JL.fact (fun h => Cells IntR 2 h [.bool g56, .slice p57 n58 c59] [v55]) (show Cells IntR 2 _ [.bool g56, .slice p57 n58 c59] [v55] from (Cells.cons (R := IntR) (us := [.bool g56, .slice p57 n58 c59]) rfl (Mo.up f60) Cells.nil)) (fun hc88 => ?_)
      refine JL.fact (fun h => OwnL IntR 37 2 h (.slice (some ⟨b87, 0, none⟩) 1 1) [v55] [(b87, row 37 [.bool g56, .slice p57 n58 c59])]) (OwnL.lit _ rfl hc88 rfl) (fun ho89 => ?_)
      refine o_appB (R := IntR) rfl rfl (OwnL.mono f32) inferInstance hc88 e91 (fun p92 c93 L94 ho95 => ?_)
      first | refine o_q (q_asv (v := .slice _ _ _) rfl) ?_ | refine o_q (q_as) ?_
      refine JL.nil ?_
      refine J.region ?_
      first | refine o_q (q_mvv (v := .int _ _) rfl) ?_ | refine o_q (q_mv) ?_
      refine o_q (q_add rfl rfl (wi64 k42)) ?_
      first | refine o_q (q_asv (v := .int _ _) rfl) ?_ | refine o_q (q_as) ?_
      refine JL.nil ?_
      replace hm := inl_onward hm hk40
      exact ⟨⟨i35 + 1, l90, p92, l90.length, c93, L94⟩, rfl, ⟨rfl, rfl, trivial⟩, ⟨rfl, rfl, trivial⟩, ⟨(OwnL.mono ho95), Int.le_trans hle38 (Int.le_of_lt (Int.lt_succ _)), hm, inferInstance⟩, (muN c41), inferInstance⟩
  ·
    replace hm := forN_ge c41 hm
    unfold M.torsionref06_Full_k2 at hm
    refine J.condF rfl (decide_eq_false c41) ?_
    refine J.exit ?_
    refine J.seq ?_
    refine J.region ?_
    first | refine o_q (q_mvv (v := .slice _ _ _) rfl) ?_ | refine o_q (q_mv) ?_
    first | refine o_q (q_asv (v := .slice _ _ _) rfl) ?_ | refine o_q (q_as) ?_
    refine JL.nil ?_
    refine J.fzO (R := IntR) (OwnL.mono f32) (fun h96 s97 f98 => ?_)
    refine J.ret ?_
    obtain rfl := Option.some.inj hm
    exact ret_ok (fn := Try.f32) rfl (.tmp rfl .nil) (Sls.mono f98)
set_option maxHeartbeats 4000000 in
theorem torsionref06_ValidRow_fn {h : Heap} {x0 : List TTerm} {x1 : Int} {v0 : Value} (r0 : Sls TTermR 3 h v0 x0) {r : Bool} (hm : M.torsionref06_ValidRow x0 x1 = some r) :
    Fn Try.prog 16 #[v0, .int .i64 x1] h fun v h' => v = .bool r := by
  obtain ⟨p21, n22, c23, rfl, f24⟩ := Sls.op3 r0
  refine Fn.intro (args := [_, _]) Try.func16 rfl rfl (Nat.le_of_ble_eq_true rfl) fun w => ?_
  unfold M.torsionref06_ValidRow at hm
  refine J.seq ?_
  refine J.region ?_
  first | refine o_q (q_asv (v := .bool _) rfl) ?_ | refine o_q (q_as) ?_
  refine JL.nil ?_
  refine J.seq ?_
  refine J.seq ?_
  refine J.region ?_
  first | refine o_q (q_asv (v := .int _ _) rfl) ?_ | refine o_q (q_as) ?_
  refine JL.nil ?_
  refine J.block ?_
  obtain ⟨hl27, hm⟩ := rngL_some hm
  refine J.loopK (α := Nat) (fun i26 h' L' => forL (M.torsionref06_ValidRow_b1 x0 x1) M.torsionref06_ValidRow_k1 (List.drop i26 x0) i26 () = some r ∧ Sp ([]) L') [(0, .slice _ _ _), (1, .int _ _)] ⟨rfl, rfl, trivial⟩ (fun i26 => [(5, .int .i64 (i26 : Int))]) (fun i26 => x0.length - i26) 0 ⟨hm, inferInstance⟩ ⟨rfl, trivial⟩ ?_
  rintro i26 σq28 hq28 Lq28 sq28 ⟨hm, hspq28⟩
  refine J.sp hspq28 ?_
  refine J.seq ?_
  refine J.seq ?_
  refine J.region ?_
  first | refine o_q (q_mvv (v := .int _ _) rfl) ?_ | refine o_q (q_mv) ?_
  first | refine o_q (q_mvv (v := .slice _ _ _) rfl) ?_ | refine o_q (q_mv) ?_
  refine o_q (q_lenE (k := x0.length) rfl (Sls.len f24)) ?_
  refine o_q (q_lss rfl rfl) ?_
  refine JL.nil ?_
  by_cases c32 : (i26 : Int) < (x0.length : Int)
  ·
    obtain ⟨x33, o30, hl34, hx35, hm, hk31⟩ := forL_cons c32 hm
    unfold M.torsionref06_ValidRow_b1 at hm
    refine J.condT rfl (decide_eq_true c32) ?_
    have k36 : -9223372036854775808 ≤ (i26 : Int) + 1 ∧ (i26 : Int) + 1 ≤ 9223372036854775807 := by omega
    refine J.skip ?_
    refine J.seq ?_
    refine J.block ?_
    refine J.seq ?_
    obtain ⟨b37, o38, rfl⟩ := Sls.op f24 hl34
    obtain ⟨us39, hc40, hR41⟩ := Sls.at f24 hx35
    obtain ⟨g42, p43, n44, c45, rfl, f46⟩ := hR41
    obtain ⟨y52, e51, hm⟩ := bnd_some hm
    refine J.region ?_
    first | refine o_q (q_mvv (v := .slice _ _ _) rfl) ?_ | refine o_q (q_mv) ?_
    first | refine o_q (q_mvv (v := .int _ _) rfl) ?_ | refine o_q (q_mv) ?_
    refine o_q (q_ian rfl rfl rfl (by first | exact hl34 | (rw [Sls.len f24]; exact hl34))) ?_
    refine o_q (q_fa rfl) ?_
    refine o_q (q_ldfs (vs := [_, _]) rfl hc40 rfl) ?_
    refine o_call (rvalid_fn (IntR.at (Mo.up f46)) e51) (fun v47 h48 s49 r50 => ?_)
    obtain rfl := (show _ = _ from r50)
    first | refine o_q (q_asv (v := .bool _) rfl) ?_ | refine o_q (q_as) ?_
    refine JL.nil ?_
    refine J.seq ?_
    by_cases c53 : y52 = true
    ·
      replace hm := ite_T c53 hm
      obtain ⟨y62, e61, hm⟩ := bnd_some hm
      by_cases c63 : y62 = 0
      ·
        replace hm := ite_T c63 hm
        refine J.drawB [] [] ?_
        first | refine JD.calc 0 (by kernel_rfl) rfl trivial ss_subB (q_mvv (v := .bool _) rfl) ?_ | refine JD.calc 0 (by kernel_rfl) rfl trivial ss_subB (q_mv) ?_
        refine JD.calc 1 (by kernel_rfl) rfl trivial ss_subB (q_not rfl) ?_
        first | refine JD.calc 2 (by kernel_rfl) rfl trivial ss_subB (q_mvv (v := .bool _) rfl) ?_ | refine JD.calc 2 (by kernel_rfl) rfl trivial ss_subB (q_mv) ?_
        first | refine JD.calc 3 (by kernel_rfl) rfl ⟨_, rfl, (congrArg Value.bool (congrArg Bool.not (show y52 = true from c53)))⟩ ss_subB (q_mvv (v := .slice _ _ _) rfl) ?_ | refine JD.calc 3 (by kernel_rfl) rfl ⟨_, rfl, (congrArg Value.bool (congrArg Bool.not (show y52 = true from c53)))⟩ ss_subB (q_mv) ?_
        first | refine JD.calc 4 (by kernel_rfl) rfl ⟨_, rfl, (congrArg Value.bool (congrArg Bool.not (show y52 = true from c53)))⟩ ss_subB (q_mvv (v := .int _ _) rfl) ?_ | refine JD.calc 4 (by kernel_rfl) rfl ⟨_, rfl, (congrArg Value.bool (congrArg Bool.not (show y52 = true from c53)))⟩ ss_subB (q_mv) ?_
        refine JD.calc 5 (by kernel_rfl) rfl ⟨_, rfl, (congrArg Value.bool (congrArg Bool.not (show y52 = true from c53)))⟩ ss_subB (q_ian rfl rfl rfl (by first | exact hl34 | (rw [Sls.len f24]; exact hl34))) ?_
        refine JD.calc 6 (by kernel_rfl) rfl ⟨_, rfl, (congrArg Value.bool (congrArg Bool.not (show y52 = true from c53)))⟩ ss_subB (q_fa rfl) ?_
        refine JD.loadB 7 (by kernel_rfl) rfl ⟨_, rfl, (congrArg Value.bool (congrArg Bool.not (show y52 = true from c53)))⟩ (q_ldfs (vs := [_, _]) rfl hc40 rfl) ?_
        refine JD.one 8 (by kernel_rfl) ?_
        refine JX.effB rfl rfl ⟨_, rfl, (congrArg Value.bool (congrArg Bool.not (show y52 = true from c53)))⟩ ?_
        refine o_call (rsign_fn (IntR.at (Mo.up f46)) e61) (fun v57 h58 s59 r60 => ?_)
        obtain rfl := (show _ = _ from r60)
        refine JL.nil ⟨rfl, inferInstance, inferInstance, ?_⟩
        refine JD.calc 9 (by kernel_rfl) rfl ⟨_, rfl, (congrArg Value.bool (congrArg Bool.not (show y52 = true from c53)))⟩ ss_subB (q_eql rfl rfl) ?_
        first | refine JD.calc 10 (by kernel_rfl) rfl trivial ss_subB (q_pickFv (v := .bool _) rfl (congrArg Bool.not (show y52 = true from c53)) rfl) ?_ | refine JD.calc 10 (by kernel_rfl) rfl trivial ss_subB (q_pickF rfl (congrArg Bool.not (show y52 = true from c53))) ?_
        first | refine JD.calc 11 (by kernel_rfl) rfl trivial ss_subB (q_mvv (v := .bool _) rfl) ?_ | refine JD.calc 11 (by kernel_rfl) rfl trivial ss_subB (q_mv) ?_
        refine JD.pass 12 (by kernel_rfl) rfl rfl (congrArg Value.bool (decide_eq_true c63)) ss_subB ?_
        refine JD.pass 13 (by kernel_rfl) rfl rfl (congrArg Value.bool (decide_eq_true c63)) ss_subB ?_
        refine JD.pass 14 (by kernel_rfl) rfl rfl (congrArg Value.bool (decide_eq_true c63)) ss_subB ?_
        refine JD.pass 15 (by kernel_rfl) rfl rfl (congrArg Value.bool (decide_eq_true c63)) ss_subB ?_
        refine JD.pass 16 (by kernel_rfl) rfl rfl (congrArg Value.bool (decide_eq_true c63)) ss_subB ?_
        refine JD.pass 17 (by kernel_rfl) rfl rfl (congrArg Value.bool (decide_eq_true c63)) ss_subB ?_
        first | refine JD.calc 18 (by kernel_rfl) rfl trivial ss_subB (q_pickTv (v := .bool _) rfl (decide_eq_true c63) rfl) ?_ | refine JD.calc 18 (by kernel_rfl) rfl trivial ss_subB (q_pickT rfl (decide_eq_true c63)) ?_
        first | refine JD.calc 19 (by kernel_rfl) rfl trivial ss_subB (q_mvv (v := .bool _) rfl) ?_ | refine JD.calc 19 (by kernel_rfl) rfl trivial ss_subB (q_mv) ?_
        refine JD.pass 20 (by kernel_rfl) rfl rfl rfl ss_subB ?_
        refine JD.pass 21 (by kernel_rfl) rfl rfl rfl ss_subB ?_
        refine JD.pass 22 (by kernel_rfl) rfl rfl rfl ss_subB ?_
        refine JD.passU 23 (by kernel_rfl) rfl rfl rfl ss_subB ?_
        refine JD.passU 24 (by kernel_rfl) rfl rfl rfl ss_subB ?_
        refine JD.passU 25 (by kernel_rfl) rfl rfl rfl ss_subB ?_
        refine JD.passU 26 (by kernel_rfl) rfl rfl rfl ss_subB ?_
        refine JD.passU 27 (by kernel_rfl) rfl rfl rfl ss_subB ?_
        refine JD.passU 28 (by kernel_rfl) rfl rfl rfl ss_subB ?_
        refine JD.passU 29 (by kernel_rfl) rfl rfl rfl ss_subB ?_
        refine JD.pass 30 (by kernel_rfl) rfl rfl rfl ss_subB ?_
        first | refine JD.calc 31 (by kernel_rfl) rfl trivial ss_subB (q_pickTv (v := .bool _) rfl rfl rfl) ?_ | refine JD.calc 31 (by kernel_rfl) rfl trivial ss_subB (q_pickT rfl rfl) ?_
        first | refine JD.calc 32 (by kernel_rfl) rfl trivial ss_subB (q_mvv (v := .bool _) rfl) ?_ | refine JD.calc 32 (by kernel_rfl) rfl trivial ss_subB (q_mv) ?_
        refine JD.pass 33 (by kernel_rfl) rfl rfl rfl ss_subB ?_
        refine JD.pass 34 (by kernel_rfl) rfl rfl rfl ss_subB ?_
        refine JD.pass 35 (by kernel_rfl) rfl rfl rfl ss_subB ?_
        refine JD.passU 36 (by kernel_rfl) rfl rfl rfl ss_subB ?_
        refine JD.passU 37 (by kernel_rfl) rfl rfl rfl ss_subB ?_
        refine JD.passU 38 (by kernel_rfl) rfl rfl rfl ss_subB ?_
        refine JD.passU 39 (by kernel_rfl) rfl rfl rfl ss_subB ?_
        refine JD.passU 40 (by kernel_rfl) rfl rfl rfl ss_subB ?_
        refine JD.passU 41 (by kernel_rfl) rfl rfl rfl ss_subB ?_
        refine JD.passU 42 (by kernel_rfl) rfl rfl rfl ss_subB ?_
        refine JD.passU 43 (by kernel_rfl) rfl rfl rfl ss_subB ?_
        refine JD.passU 44 (by kernel_rfl) rfl rfl rfl ss_subB ?_
        refine JD.passU 45 (by kernel_rfl) rfl rfl rfl ss_subB ?_
        refine JD.passU 46 (by kernel_rfl) rfl rfl rfl ss_subB ?_
        refine JD.passU 47 (by kernel_rfl) rfl rfl rfl ss_subB ?_
        refine JD.pass 48 (by kernel_rfl) rfl rfl rfl ss_subB ?_
        first | refine JD.calc 49 (by kernel_rfl) rfl trivial ss_subB (q_pickTv (v := .bool _) rfl rfl rfl) ?_ | refine JD.calc 49 (by kernel_rfl) rfl trivial ss_subB (q_pickT rfl rfl) ?_
        refine JD.done (by kernel_rfl) ?_ _
        --
        refine J.condT rfl rfl ?_
        refine J.seq ?_
        refine J.region ?_
        first | refine o_q (q_asv (v := .bool _) rfl) ?_ | refine o_q (q_as) ?_
        refine JL.nil ?_
        replace hm := inr_onward hm hk31
        refine J.ret ?_
        obtain rfl := Option.some.inj hm
        exact ret_ok (fn := Try.f16) rfl (.tmp rfl .nil) rfl
      ·
        replace hm := ite_F c63 hm
        by_cases c67 : x33.Col < 0
        ·
          replace hm := ite_T c67 hm
          refine J.drawB [] [] ?_
          first | refine JD.calc 0 (by kernel_rfl) rfl trivial ss_subB (q_mvv (v := .bool _) rfl) ?_ | refine JD.calc 0 (by kernel_rfl) rfl trivial ss_subB (q_mv) ?_
          refine JD.calc 1 (by kernel_rfl) rfl trivial ss_subB (q_not rfl) ?_
          first | refine JD.calc 2 (by kernel_rfl) rfl trivial ss_subB (q_mvv (v := .bool _) rfl) ?_ | refine JD.calc 2 (by kernel_rfl) rfl trivial ss_subB (q_mv) ?_
          first | refine JD.calc 3 (by kernel_rfl) rfl ⟨_, rfl, (congrArg Value.bool (congrArg Bool.not (show y52 = true from c53)))⟩ ss_subB (q_mvv (v := .slice _ _ _) rfl) ?_ | refine JD.calc 3 (by kernel_rfl) rfl ⟨_, rfl, (congrArg Value.bool (congrArg Bool.not (show y52 = true from c53)))⟩ ss_subB (q_mv) ?_
          first | refine JD.calc 4 (by kernel_rfl) rfl ⟨_, rfl, (congrArg Value.bool (congrArg Bool.not (show y52 = true from c53)))⟩ ss_subB (q_mvv (v := .int _ _) rfl) ?_ | refine JD.calc 4 (by kernel_rfl) rfl ⟨_, rfl, (congrArg Value.bool (congrArg Bool.not (show y52 = true from c53)))⟩ ss_subB (q_mv) ?_
          refine JD.calc 5 (by kernel_rfl) rfl ⟨_, rfl, (congrArg Value.bool (congrArg Bool.not (show y52 = true from c53)))⟩ ss_subB (q_ian rfl rfl rfl (by first | exact hl34 | (rw [Sls.len f24]; exact hl34))) ?_
          refine JD.calc 6 (by kernel_rfl) rfl ⟨_, rfl, (congrArg Value.bool (congrArg Bool.not (show y52 = true from c53)))⟩ ss_subB (q_fa rfl) ?_
          refine JD.loadB 7 (by kernel_rfl) rfl ⟨_, rfl, (congrArg Value.bool (congrArg Bool.not (show y52 = true from c53)))⟩ (q_ldfs (vs := [_, _]) rfl hc40 rfl) ?_
          refine JD.one 8 (by kernel_rfl) ?_
          refine JX.effB rfl rfl ⟨_, rfl, (congrArg Value.bool (congrArg Bool.not (show y52 = true from c53)))⟩ ?_
          refine o_call (rsign_fn (IntR.at (Mo.up f46)) e61) (fun v57 h58 s59 r60 => ?_)
          obtain rfl := (show _ = _ from r60)
          refine JL.nil ⟨rfl, inferInstance, inferInstance, ?_⟩
          refine JD.calc 9 (by kernel_rfl) rfl ⟨_, rfl, (congrArg Value.bool (congrArg Bool.not (show y52 = true from c53)))⟩ ss_subB (q_eql rfl rfl) ?_
          first | refine JD.calc 10 (by kernel_rfl) rfl trivial ss_subB (q_pickFv (v := .bool _) rfl (congrArg Bool.not (show y52 = true from c53)) rfl) ?_ | refine JD.calc 10 (by kernel_rfl) rfl trivial ss_subB (q_pickF rfl (congrArg Bool.not (show y52 = true from c53))) ?_
          first | refine JD.calc 11 (by kernel_rfl) rfl trivial ss_subB (q_mvv (v := .bool _) rfl) ?_ | refine JD.calc 11 (by kernel_rfl) rfl trivial ss_subB (q_mv) ?_
          first | refine JD.calc 12 (by kernel_rfl) rfl ⟨_, rfl, (congrArg Value.bool (decide_eq_false c63))⟩ ss_subB (q_mvv (v := .slice _ _ _) rfl) ?_ | refine JD.calc 12 (by kernel_rfl) rfl ⟨_, rfl, (congrArg Value.bool (decide_eq_false c63))⟩ ss_subB (q_mv) ?_
          first | refine JD.calc 13 (by kernel_rfl) rfl ⟨_, rfl, (congrArg Value.bool (decide_eq_false c63))⟩ ss_subB (q_mvv (v := .int _ _) rfl) ?_ | refine JD.calc 13 (by kernel_rfl) rfl ⟨_, rfl, (congrArg Value.bool (decide_eq_false c63))⟩ ss_subB (q_mv) ?_
          refine JD.calc 14 (by kernel_rfl) rfl ⟨_, rfl, (congrArg Value.bool (decide_eq_false c63))⟩ ss_subB (q_ian rfl rfl rfl (by first | exact hl34 | (rw [Sls.len f24]; exact hl34))) ?_
          refine JD.calc 15 (by kernel_rfl) rfl ⟨_, rfl, (congrArg Value.bool (decide_eq_false c63))⟩ ss_subB (q_fa rfl) ?_
          refine JD.loadB 16 (by kernel_rfl) rfl ⟨_, rfl, (congrArg Value.bool (decide_eq_false c63))⟩ (q_ldf rfl (hc40.cell (j := 0) rfl)) ?_
          refine JD.calc 17 (by kernel_rfl) rfl ⟨_, rfl, (congrArg Value.bool (decide_eq_false c63))⟩ ss_subB (q_lss rfl rfl) ?_
          first | refine JD.calc 18 (by kernel_rfl) rfl trivial ss_subB (q_pickFv (v := .bool _) rfl (decide_eq_false c63) rfl) ?_ | refine JD.calc 18 (by kernel_rfl) rfl trivial ss_subB (q_pickF rfl (decide_eq_false c63)) ?_
          first | refine JD.calc 19 (by kernel_rfl) rfl trivial ss_subB (q_mvv (v := .bool _) rfl) ?_ | refine JD.calc 19 (by kernel_rfl) rfl trivial ss_subB (q_mv) ?_
          refine JD.pass 20 (by kernel_rfl) rfl rfl (congrArg Value.bool (decide_eq_true c67)) ss_subB ?_
          refine JD.pass 21 (by kernel_rfl) rfl rfl (congrArg Value.bool (decide_eq_true c67)) ss_subB ?_
          refine JD.pass 22 (by kernel_rfl) rfl rfl (congrArg Value.bool (decide_eq_true c67)) ss_subB ?_
          refine JD.passU 23 (by kernel_rfl) rfl rfl rfl ss_subB ?_
          refine JD.passU 24 (by kernel_rfl) rfl rfl rfl ss_subB ?_
          refine JD.passU 25 (by kernel_rfl) rfl rfl rfl ss_subB ?_
          refine JD.passU 26 (by kernel_rfl) rfl rfl rfl ss_subB ?_
          refine JD.passU 27 (by kernel_rfl) rfl rfl rfl ss_subB ?_
          refine JD.passU 28 (by kernel_rfl) rfl rfl rfl ss_subB ?_
          refine JD.passU 29 (by kernel_rfl) rfl rfl rfl ss_subB ?_
          refine JD.pass 30 (by kernel_rfl) rfl rfl (congrArg Value.bool (decide_eq_true c67)) ss_subB ?_
          first | refine JD.calc 31 (by kernel_rfl) rfl trivial ss_subB (q_pickTv (v := .bool _) rfl (decide_eq_true c67) rfl) ?_ | refine JD.calc 31 (by kernel_rfl) rfl trivial ss_subB (q_pickT rfl (decide_eq_true c67)) ?_
          first | refine JD.calc 32 (by kernel_rfl) rfl trivial ss_subB (q_mvv (v := .bool _) rfl) ?_ | refine JD.calc 32 (by kernel_rfl) rfl trivial ss_subB (q_mv) ?_
          refine JD.pass 33 (by kernel_rfl) rfl rfl rfl ss_subB ?_
          refine JD.pass 34 (by kernel_rfl) rfl rfl rfl ss_subB ?_
          refine JD.pass 35 (by kernel_rfl) rfl rfl rfl ss_subB ?_
          refine JD.passU 36 (by kernel_rfl) rfl rfl rfl ss_subB ?_
          refine JD.passU 37 (by kernel_rfl) rfl rfl rfl ss_subB ?_
          refine JD.passU 38 (by kernel_rfl) rfl rfl rfl ss_subB ?_
          refine JD.passU 39 (by kernel_rfl) rfl rfl rfl ss_subB ?_
          refine JD.passU 40 (by kernel_rfl) rfl rfl rfl ss_subB ?_
          refine JD.passU 41 (by kernel_rfl) rfl rfl rfl ss_subB ?_
          refine JD.passU 42 (by kernel_rfl) rfl rfl rfl ss_subB ?_
          refine JD.passU 43 (by kernel_rfl) rfl rfl rfl ss_subB ?_
          refine JD.passU 44 (by kernel_rfl) rfl rfl rfl ss_subB ?_
          refine JD.passU 45 (by kernel_rfl) rfl rfl rfl ss_subB ?_
          refine JD.passU 46 (by kernel_rfl) rfl rfl rfl ss_subB ?_
          refine JD.passU 47 (by kernel_rfl) rfl rfl rfl ss_subB ?_
          refine JD.pass 48 (by kernel_rfl) rfl rfl rfl ss_subB ?_
          first | refine JD.calc 49 (by kernel_rfl) rfl trivial ss_subB (q_pickTv (v := .bool _) rfl rfl rfl) ?_ | refine JD.calc 49 (by kernel_rfl) rfl trivial ss_subB (q_pickT rfl rfl) ?_
          refine JD.done (by kernel_rfl) ?_ _
          --
          refine J.condT rfl rfl ?_
          refine J.seq ?_
          refine J.region ?_
          first | refine o_q (q_asv (v := .bool _) rfl) ?_ | refine o_q (q_as) ?_
          refine JL.nil ?_
          replace hm := inr_onward hm hk31
          refine J.ret ?_
          obtain rfl := Option.some.inj hm
          exact ret_ok (fn := Try.f16) rfl (.tmp rfl .nil) rfl
        ·
          replace hm := ite_F c67 hm
          by_cases c68 : 0 ≤ x1
          ·
            replace hm := ite_T c68 hm
            by_cases c72 : x1 ≤ x33.Col
            ·
              replace hm := ite_T c72 hm
              refine J.drawB [] [] ?_
              first | refine JD.calc 0 (by kernel_rfl) rfl trivial ss_subB (q_mvv (v := .bool _) rfl) ?_ | refine JD.calc 0 (by kernel_rfl) rfl trivial ss_subB (q_mv) ?_
              refine JD.calc 1 (by kernel_rfl) rfl trivial ss_subB (q_not rfl) ?_
              first | refine JD.calc 2 (by kernel_rfl) rfl trivial ss_subB (q_mvv (v := .bool _) rfl) ?_ | refine JD.calc 2 (by kernel_rfl) rfl trivial ss_subB (q_mv) ?_
              first | refine JD.calc 3 (by kernel_rfl) rfl ⟨_, rfl, (congrArg Value.bool (congrArg Bool.not (show y52 = true from c53)))⟩ ss_subB (q_mvv (v := .slice _ _ _) rfl) ?_ | refine JD.calc 3 (by kernel_rfl) rfl ⟨_, rfl, (congrArg Value.bool (congrArg Bool.not (show y52 = true from c53)))⟩ ss_subB (q_mv) ?_
              first | refine JD.calc 4 (by kernel_rfl) rfl ⟨_, rfl, (congrArg Value.bool (congrArg Bool.not (show y52 = true from c53)))⟩ ss_subB (q_mvv (v := .int _ _) rfl) ?_ | refine JD.calc 4 (by kernel_rfl) rfl ⟨_, rfl, (congrArg Value.bool (congrArg Bool.not (show y52 = true from c53)))⟩ ss_subB (q_mv) ?_
              refine JD.calc 5 (by kernel_rfl) rfl ⟨_, rfl, (congrArg Value.bool (congrArg Bool.not (show y52 = true from c53)))⟩ ss_subB (q_ian rfl rfl rfl (by first | exact hl34 | (rw [Sls.len f24]; exact hl34))) ?_
              refine JD.calc 6 (by kernel_rfl) rfl ⟨_, rfl, (congrArg Value.bool (congrArg Bool.not (show y52 = true from c53)))⟩ ss_subB (q_fa rfl) ?_
              refine JD.loadB 7 (by kernel_rfl) rfl ⟨_, rfl, (congrArg Value.bool (congrArg Bool.not (show y52 = true from c53)))⟩ (q_ldfs (vs := [_, _]) rfl hc40 rfl) ?_
              refine JD.one 8 (by kernel_rfl) ?_
              refine JX.effB rfl rfl ⟨_, rfl, (congrArg Value.bool (congrArg Bool.not (show y52 = true from c53)))⟩ ?_
              refine o_call (rsign_fn (IntR.at (Mo.up f46)) e61) (fun v57 h58 s59 r60 => ?_)
              obtain rfl := (show _ = _ from r60)
              refine JL.nil ⟨rfl, inferInstance, inferInstance, ?_⟩
              refine JD.calc 9 (by kernel_rfl) rfl ⟨_, rfl, (congrArg Value.bool (congrArg Bool.not (show y52 = true from c53)))⟩ ss_subB (q_eql rfl rfl) ?_
              first | refine JD.calc 10 (by kernel_rfl) rfl trivial ss_subB (q_pickFv (v := .bool _) rfl (congrArg Bool.not (show y52 = true from c53)) rfl) ?_ | refine JD.calc 10 (by kernel_rfl) rfl trivial ss_subB (q_pickF rfl (congrArg Bool.not (show y52 = true from c53))) ?_
              first | refine JD.calc 11 (by kernel_rfl) rfl trivial ss_subB (q_mvv (v := .bool _) rfl) ?_ | refine JD.calc 11 (by kernel_rfl) rfl trivial ss_subB (q_mv) ?_
              first | refine JD.calc 12 (by kernel_rfl) rfl ⟨_, rfl, (congrArg Value.bool (decide_eq_false c63))⟩ ss_subB (q_mvv (v := .slice _ _ _) rfl) ?_ | refine JD.calc 12 (by kernel_rfl) rfl ⟨_, rfl, (congrArg Value.bool (decide_eq_false c63))⟩ ss_subB (q_mv) ?_
              first | refine JD.calc 13 (by kernel_rfl) rfl ⟨_, rfl, (congrArg Value.bool (decide_eq_false c63))⟩ ss_subB (q_mvv (v := .int _ _) rfl) ?_ | refine JD.calc 13 (by kernel_rfl) rfl ⟨_, rfl, (congrArg Value.bool (decide_eq_false c63))⟩ ss_subB (q_mv) ?_
              refine JD.calc 14 (by kernel_rfl) rfl ⟨_, rfl, (congrArg Value.bool (decide_eq_false c63))⟩ ss_subB (q_ian rfl rfl rfl (by first | exact hl34 | (rw [Sls.len f24]; exact hl34))) ?_
              refine JD.calc 15 (by kernel_rfl) rfl ⟨_, rfl, (congrArg Value.bool (decide_eq_false c63))⟩ ss_subB (q_fa rfl) ?_
              refine JD.loadB 16 (by kernel_rfl) rfl ⟨_, rfl, (congrArg Value.bool (decide_eq_false c63))⟩ (q_ldf rfl (hc40.cell (j := 0) rfl)) ?_
              refine JD.calc 17 (by kernel_rfl) rfl ⟨_, rfl, (congrArg Value.bool (decide_eq_false c63))⟩ ss_subB (q_lss rfl rfl) ?_
              first | refine JD.calc 18 (by kernel_rfl) rfl trivial ss_subB (q_pickFv (v := .bool _) rfl (decide_eq_false c63) rfl) ?_ | refine JD.calc 18 (by kernel_rfl) rfl trivial ss_subB (q_pickF rfl (decide_eq_false c63)) ?_
              first | refine JD.calc 19 (by kernel_rfl) rfl trivial ss_subB (q_mvv (v := .bool _) rfl) ?_ | refine JD.calc 19 (by kernel_rfl) rfl trivial ss_subB (q_mv) ?_
              first | refine JD.calc 20 (by kernel_rfl) rfl ⟨_, rfl, (congrArg Value.bool (decide_eq_false c67))⟩ ss_subB (q_mvv (v := .int _ _) rfl) ?_ | refine JD.calc 20 (by kernel_rfl) rfl ⟨_, rfl, (congrArg Value.bool (decide_eq_false c67))⟩ ss_subB (q_mv) ?_
              refine JD.calc 21 (by kernel_rfl) rfl ⟨_, rfl, (congrArg Value.bool (decide_eq_false c67))⟩ ss_subB (q_geq rfl rfl) ?_
              first | refine JD.calc 22 (by kernel_rfl) rfl ⟨_, rfl, (congrArg Value.bool (decide_eq_false c67))⟩ ss_subB (q_mvv (v := .bool _) rfl) ?_ | refine JD.calc 22 (by kernel_rfl) rfl ⟨_, rfl, (congrArg Value.bool (decide_eq_false c67))⟩ ss_subB (q_mv) ?_
              first | refine JD.calc 23 (by kernel_rfl) rfl ⟨_, rfl, (congrArg Value.bool (decide_eq_true c68))⟩ ss_subB (q_mvv (v := .slice _ _ _) rfl) ?_ | refine JD.calc 23 (by kernel_rfl) rfl ⟨_, rfl, (congrArg Value.bool (decide_eq_true c68))⟩ ss_subB (q_mv) ?_
              first | refine JD.calc 24 (by kernel_rfl) rfl ⟨_, rfl, (congrArg Value.bool (decide_eq_true c68))⟩ ss_subB (q_mvv (v := .int _ _) rfl) ?_ | refine JD.calc 24 (by kernel_rfl) rfl ⟨_, rfl, (congrArg Value.bool (decide_eq_true c68))⟩ ss_subB (q_mv) ?_
              refine JD.calc 25 (by kernel_rfl) rfl ⟨_, rfl, (congrArg Value.bool (decide_eq_true c68))⟩ ss_subB (q_ian rfl rfl rfl (by first | exact hl34 | (rw [Sls.len f24]; exact hl34))) ?_
              refine JD.calc 26 (by kernel_rfl) rfl ⟨_, rfl, (congrArg Value.bool (decide_eq_true c68))⟩ ss_subB (q_fa rfl) ?_
              refine JD.loadB 27 (by kernel_rfl) rfl ⟨_, rfl, (congrArg Value.bool (decide_eq_true c68))⟩ (q_ldf rfl (hc40.cell (j := 0) rfl)) ?_
              first | refine JD.calc 28 (by kernel_rfl) rfl ⟨_, rfl, (congrArg Value.bool (decide_eq_true c68))⟩ ss_subB (q_mvv (v := .int _ _) rfl) ?_ | refine JD.calc 28 (by kernel_rfl) rfl ⟨_, rfl, (congrArg Value.bool (decide_eq_true c68))⟩ ss_subB (q_mv) ?_
              refine JD.calc 29 (by kernel_rfl) rfl ⟨_, rfl, (congrArg Value.bool (decide_eq_true c68))⟩ ss_subB (q_geq rfl rfl) ?_
              first | refine JD.calc 30 (by kernel_rfl) rfl ⟨_, rfl, (congrArg Value.bool (decide_eq_false c67))⟩ ss_subB (q_pickTv (v := .bool _) rfl (decide_eq_true c68) rfl) ?_ | refine JD.calc 30 (by kernel_rfl) rfl ⟨_, rfl, (congrArg Value.bool (decide_eq_false c67))⟩ ss_subB (q_pickT rfl (decide_eq_true c68)) ?_
              first | refine JD.calc 31 (by kernel_rfl) rfl trivial ss_subB (q_pickFv (v := .bool _) rfl (decide_eq_false c67) rfl) ?_ | refine JD.calc 31 (by kernel_rfl) rfl trivial ss_subB (q_pickF rfl (decide_eq_false c67)) ?_
              first | refine JD.calc 32 (by kernel_rfl) rfl trivial ss_subB (q_mvv (v := .bool _) rfl) ?_ | refine JD.calc 32 (by kernel_rfl) rfl trivial ss_subB (q_mv) ?_
              refine JD.pass 33 (by kernel_rfl) rfl rfl (congrArg Value.bool (decide_eq_true c72)) ss_subB ?_
              refine JD.pass 34 (by kernel_rfl) rfl rfl (congrArg Value.bool (decide_eq_true c72)) ss_subB ?_
              refine JD.pass 35 (by kernel_rfl) rfl rfl (congrArg Value.bool (decide_eq_true c72)) ss_subB ?_
              refine JD.passU 36 (by kernel_rfl) rfl rfl rfl ss_subB ?_
              refine JD.passU 37 (by kernel_rfl) rfl rfl rfl ss_subB ?_
              refine JD.passU 38 (by kernel_rfl) rfl rfl rfl ss_subB ?_
              refine JD.passU 39 (by kernel_rfl) rfl rfl rfl ss_subB ?_
              refine JD.passU 40 (by kernel_rfl) rfl rfl rfl ss_subB ?_
              refine JD.passU 41 (by kernel_rfl) rfl rfl rfl ss_subB ?_
              refine JD.passU 42 (by kernel_rfl) rfl rfl rfl ss_subB ?_
              refine JD.passU 43 (by kernel_rfl) rfl rfl rfl ss_subB ?_
              refine JD.passU 44 (by kernel_rfl) rfl rfl rfl ss_subB ?_
              refine JD.passU 45 (by kernel_rfl) rfl rfl rfl ss_subB ?_
              refine JD.passU 46 (by kernel_rfl) rfl rfl rfl ss_subB ?_
              refine JD.passU 47 (by kernel_rfl) rfl rfl rfl ss_subB ?_
              refine JD.pass 48 (by kernel_rfl) rfl rfl (congrArg Value.bool (decide_eq_true c72)) ss_subB ?_
              first | refine JD.calc 49 (by kernel_rfl) rfl trivial ss_subB (q_pickTv (v := .bool _) rfl (decide_eq_true c72) rfl) ?_ | refine JD.calc 49 (by kernel_rfl) rfl trivial ss_subB (q_pickT rfl (decide_eq_true c72)) ?_
              refine JD.done (by kernel_rfl) ?_ _
              --
              refine J.condT rfl rfl ?_
              refine J.seq ?_
              refine J.region ?_
              first | refine o_q (q_asv (v := .bool _) rfl) ?_ | refine o_q (q_as) ?_
              refine JL.nil ?_
              replace hm := inr_onward hm hk31
              refine J.ret ?_
              obtain rfl := Option.some.inj hm
              exact ret_ok (fn := Try.f16) rfl (.tmp rfl .nil) rfl
            ·
              replace hm := ite_F c72 hm
              by_cases c73 : 0 < (i26 : Int)
              ·
                replace hm := ite_T c73 hm
                obtain ⟨k74, hm⟩ := chk64_some hm
                obtain ⟨i76, x75, hi77, hl78, hx79, hm⟩ := nth_some hm
                obtain ⟨us80, hc81, hR82⟩ := Sls.at f24 hx79
                obtain ⟨g83, p84, n85, c86, rfl, f87⟩ := hR82
                refine J.drawB [] [] ?_
                first | refine JD.calc 0 (by kernel_rfl) rfl trivial ss_subB (q_mvv (v := .bool _) rfl) ?_ | refine JD.calc 0 (by kernel_rfl) rfl trivial ss_subB (q_mv) ?_
                refine JD.calc 1 (by kernel_rfl) rfl trivial ss_subB (q_not rfl) ?_
                first | refine JD.calc 2 (by kernel_rfl) rfl trivial ss_subB (q_mvv (v := .bool _) rfl) ?_ | refine JD.calc 2 (by kernel_rfl) rfl trivial ss_subB (q_mv) ?_
                first | refine JD.calc 3 (by kernel_rfl) rfl ⟨_, rfl, (congrArg Value.bool (congrArg Bool.not (show y52 = true from c53)))⟩ ss_subB (q_mvv (v := .slice _ _ _) rfl) ?_ | refine JD.calc 3 (by kernel_rfl) rfl ⟨_, rfl, (congrArg Value.bool (congrArg Bool.not (show y52 = true from c53)))⟩ ss_subB (q_mv) ?_
                first | refine JD.calc 4 (by kernel_rfl) rfl ⟨_, rfl, (congrArg Value.bool (congrArg Bool.not (show y52 = true from c53)))⟩ ss_subB (q_mvv (v := .int _ _) rfl) ?_ | refine JD.calc 4 (by kernel_rfl) rfl ⟨_, rfl, (congrArg Value.bool (congrArg Bool.not (show y52 = true from c53)))⟩ ss_subB (q_mv) ?_
                refine JD.calc 5 (by kernel_rfl) rfl ⟨_, rfl, (congrArg Value.bool (congrArg Bool.not (show y52 = true from c53)))⟩ ss_subB (q_ian rfl rfl rfl (by first | exact hl34 | (rw [Sls.len f24]; exact hl34))) ?_
                refine JD.calc 6 (by kernel_rfl) rfl ⟨_, rfl, (congrArg Value.bool (congrArg Bool.not (show y52 = true from c53)))⟩ ss_subB (q_fa rfl) ?_
                refine JD.loadB 7 (by kernel_rfl) rfl ⟨_, rfl, (congrArg Value.bool (congrArg Bool.not (show y52 = true from c53)))⟩ (q_ldfs (vs := [_, _]) rfl hc40 rfl) ?_
                refine JD.one 8 (by kernel_rfl) ?_
                refine JX.effB rfl rfl ⟨_, rfl, (congrArg Value.bool (congrArg Bool.not (show y52 = true from c53)))⟩ ?_
                refine o_call (rsign_fn (IntR.at (Mo.up f46)) e61) (fun v57 h58 s59 r60 => ?_)
                obtain rfl := (show _ = _ from r60)
                refine JL.nil ⟨rfl, inferInstance, inferInstance, ?_⟩
                refine JD.calc 9 (by kernel_rfl) rfl ⟨_, rfl, (congrArg Value.bool (congrArg Bool.not (show y52 = true from c53)))⟩ ss_subB (q_eql rfl rfl) ?_
                first | refine JD.calc 10 (by kernel_rfl) rfl trivial ss_subB (q_pickFv (v := .bool _) rfl (congrArg Bool.not (show y52 = true from c53)) rfl) ?_ | refine JD.calc 10 (by kernel_rfl) rfl trivial ss_subB (q_pickF rfl (congrArg Bool.not (show y52 = true from c53))) ?_
                first | refine JD.calc 11 (by kernel_rfl) rfl trivial ss_subB (q_mvv (v := .bool _) rfl) ?_ | refine JD.calc 11 (by kernel_rfl) rfl trivial ss_subB (q_mv) ?_
                first | refine JD.calc 12 (by kernel_rfl) rfl ⟨_, rfl, (congrArg Value.bool (decide_eq_false c63))⟩ ss_subB (q_mvv (v := .slice _ _ _) rfl) ?_ | refine JD.calc 12 (by kernel_rfl) rfl ⟨_, rfl, (congrArg Value.bool (decide_eq_false c63))⟩ ss_subB (q_mv) ?_
                first | refine JD.calc 13 (by kernel_rfl) rfl ⟨_, rfl, (congrArg Value.bool (decide_eq_false c63))⟩ ss_subB (q_mvv (v := .int _ _) rfl) ?_ | refine JD.calc 13 (by kernel_rfl) rfl ⟨_, rfl, (congrArg Value.bool (decide_eq_false c63))⟩ ss_subB (q_mv) ?_
                refine JD.calc 14 (by kernel_rfl) rfl ⟨_, rfl, (congrArg Value.bool (decide_eq_false c63))⟩ ss_subB (q_ian rfl rfl rfl (by first | exact hl34 | (rw [Sls.len f24]; exact hl34))) ?_
                refine JD.calc 15 (by kernel_rfl) rfl ⟨_, rfl, (congrArg Value.bool (decide_eq_false c63))⟩ ss_subB (q_fa rfl) ?_
                refine JD.loadB 16 (by kernel_rfl) rfl ⟨_, rfl, (congrArg Value.bool (decide_eq_false c63))⟩ (q_ldf rfl (hc40.cell (j := 0) rfl)) ?_
                refine JD.calc 17 (by kernel_rfl) rfl ⟨_, rfl, (congrArg Value.bool (decide_eq_false c63))⟩ ss_subB (q_lss rfl rfl) ?_
                first | refine JD.calc 18 (by kernel_rfl) rfl trivial ss_subB (q_pickFv (v := .bool _) rfl (decide_eq_false c63) rfl) ?_ | refine JD.calc 18 (by kernel_rfl) rfl trivial ss_subB (q_pickF rfl (decide_eq_false c63)) ?_
                first | refine JD.calc 19 (by kernel_rfl) rfl trivial ss_subB (q_mvv (v := .bool _) rfl) ?_ | refine JD.calc 19 (by kernel_rfl) rfl trivial ss_subB (q_mv) ?_
                first | refine JD.calc 20 (by kernel_rfl) rfl ⟨_, rfl, (congrArg Value.bool (decide_eq_false c67))⟩ ss_subB (q_mvv (v := .int _ _) rfl) ?_ | refine JD.calc 20 (by kernel_rfl) rfl ⟨_, rfl, (congrArg Value.bool (decide_eq_false c67))⟩ ss_subB (q_mv) ?_
                refine JD.calc 21 (by kernel_rfl) rfl ⟨_, rfl, (congrArg Value.bool (decide_eq_false c67))⟩ ss_subB (q_geq rfl rfl) ?_
                first | refine JD.calc 22 (by kernel_rfl) rfl ⟨_, rfl, (congrArg Value.bool (decide_eq_false c67))⟩ ss_subB (q_mvv (v := .bool _) rfl) ?_ | refine JD.calc 22 (by kernel_rfl) rfl ⟨_, rfl, (congrArg Value.bool (decide_eq_false c67))⟩ ss_subB (q_mv) ?_
                first | refine JD.calc 23 (by kernel_rfl) rfl ⟨_, rfl, (congrArg Value.bool (decide_eq_true c68))⟩ ss_subB (q_mvv (v := .slice _ _ _) rfl) ?_ | refine JD.calc 23 (by kernel_rfl) rfl ⟨_, rfl, (congrArg Value.bool (decide_eq_true c68))⟩ ss_subB (q_mv) ?_
                first | refine JD.calc 24 (by kernel_rfl) rfl ⟨_, rfl, (congrArg Value.bool (decide_eq_true c68))⟩ ss_subB (q_mvv (v := .int _ _) rfl) ?_ | refine JD.calc 24 (by kernel_rfl) rfl ⟨_, rfl, (congrArg Value.bool (decide_eq_true c68))⟩ ss_subB (q_mv) ?_
                refine JD.calc 25 (by kernel_rfl) rfl ⟨_, rfl, (congrArg Value.bool (decide_eq_true c68))⟩ ss_subB (q_ian rfl rfl rfl (by first | exact hl34 | (rw [Sls.len f24]; exact hl34))) ?_
                refine JD.calc 26 (by kernel_rfl) rfl ⟨_, rfl, (congrArg Value.bool (decide_eq_true c68))⟩ ss_subB (q_fa rfl) ?_
                refine JD.loadB 27 (by kernel_rfl) rfl ⟨_, rfl, (congrArg Value.bool (decide_eq_true c68))⟩ (q_ldf rfl (hc40.cell (j := 0) rfl)) ?_
                first | refine JD.calc 28 (by kernel_rfl) rfl ⟨_, rfl, (congrArg Value.bool (decide_eq_true c68))⟩ ss_subB (q_mvv (v := .int _ _) rfl) ?_ | refine JD.calc 28 (by kernel_rfl) rfl ⟨_, rfl, (congrArg Value.bool (decide_eq_true c68))⟩ ss_subB (q_mv) ?_
                refine JD.calc 29 (by kernel_rfl) rfl ⟨_, rfl, (congrArg Value.bool (decide_eq_true c68))⟩ ss_subB (q_geq rfl rfl) ?_
                first | refine JD.calc 30 (by kernel_rfl) rfl ⟨_, rfl, (congrArg Value.bool (decide_eq_false c67))⟩ ss_subB (q_pickTv (v := .bool _) rfl (decide_eq_true c68) rfl) ?_ | refine JD.calc 30 (by kernel_rfl) rfl ⟨_, rfl, (congrArg Value.bool (decide_eq_false c67))⟩ ss_subB (q_pickT rfl (decide_eq_true c68)) ?_
                first | refine JD.calc 31 (by kernel_rfl) rfl trivial ss_subB (q_pickFv (v := .bool _) rfl (decide_eq_false c67) rfl) ?_ | refine JD.calc 31 (by kernel_rfl) rfl trivial ss_subB (q_pickF rfl (decide_eq_false c67)) ?_
                first | refine JD.calc 32 (by kernel_rfl) rfl trivial ss_subB (q_mvv (v := .bool _) rfl) ?_ | refine JD.calc 32 (by kernel_rfl) rfl trivial ss_subB (q_mv) ?_
                first | refine JD.calc 33 (by kernel_rfl) rfl ⟨_, rfl, (congrArg Value.bool (decide_eq_false c72))⟩ ss_subB (q_mvv (v := .int _ _) rfl) ?_ | refine JD.calc 33 (by kernel_rfl) rfl ⟨_, rfl, (congrArg Value.bool (decide_eq_false c72))⟩ ss_subB (q_mv) ?_
                refine JD.calc 34 (by kernel_rfl) rfl ⟨_, rfl, (congrArg Value.bool (decide_eq_false c72))⟩ ss_subB (q_gtr rfl rfl) ?_
                first | refine JD.calc 35 (by kernel_rfl) rfl ⟨_, rfl, (congrArg Value.bool (decide_eq_false c72))⟩ ss_subB (q_mvv (v := .bool _) rfl) ?_ | refine JD.calc 35 (by kernel_rfl) rfl ⟨_, rfl, (congrArg Value.bool (decide_eq_false c72))⟩ ss_subB (q_mv) ?_
                first | refine JD.calc 36 (by kernel_rfl) rfl ⟨_, rfl, (congrArg Value.bool (decide_eq_true c73))⟩ ss_subB (q_mvv (v := .slice _ _ _) rfl) ?_ | refine JD.calc 36 (by kernel_rfl) rfl ⟨_, rfl, (congrArg Value.bool (decide_eq_true c73))⟩ ss_subB (q_mv) ?_
                first | refine JD.calc 37 (by kernel_rfl) rfl ⟨_, rfl, (congrArg Value.bool (decide_eq_true c73))⟩ ss_subB (q_mvv (v := .int _ _) rfl) ?_ | refine JD.calc 37 (by kernel_rfl) rfl ⟨_, rfl, (congrArg Value.bool (decide_eq_true c73))⟩ ss_subB (q_mv) ?_
                refine JD.calc 38 (by kernel_rfl) rfl ⟨_, rfl, (congrArg Value.bool (decide_eq_true c73))⟩ ss_subB (q_sub rfl rfl (wi64 k74)) ?_
                refine JD.calc 39 (by kernel_rfl) rfl ⟨_, rfl, (congrArg Value.bool (decide_eq_true c73))⟩ ss_subB (q_ian rfl rfl hi77 (by first | exact hl78 | (rw [Sls.len f24]; exact hl78))) ?_
                refine JD.calc 40 (by kernel_rfl) rfl ⟨_, rfl, (congrArg Value.bool (decide_eq_true c73))⟩ ss_subB (q_fa rfl) ?_
                refine JD.loadB 41 (by kernel_rfl) rfl ⟨_, rfl, (congrArg Value.bool (decide_eq_true c73))⟩ (q_ldf rfl (hc81.cell (j := 0) rfl)) ?_
                first | refine JD.calc 42 (by kernel_rfl) rfl ⟨_, rfl, (congrArg Value.bool (decide_eq_true c73))⟩ ss_subB (q_mvv (v := .slice _ _ _) rfl) ?_ | refine JD.calc 42 (by kernel_rfl) rfl ⟨_, rfl, (congrArg Value.bool (decide_eq_true c73))⟩ ss_subB (q_mv) ?_
                first | refine JD.calc 43 (by kernel_rfl) rfl ⟨_, rfl, (congrArg Value.bool (decide_eq_true c73))⟩ ss_subB (q_mvv (v := .int _ _) rfl) ?_ | refine JD.calc 43 (by kernel_rfl) rfl ⟨_, rfl, (congrArg Value.bool (decide_eq_true c73))⟩ ss_subB (q_mv) ?_
                refine JD.calc 44 (by kernel_rfl) rfl ⟨_, rfl, (congrArg Value.bool (decide_eq_true c73))⟩ ss_subB (q_ian rfl rfl rfl (by first | exact hl34 | (rw [Sls.len f24]; exact hl34))) ?_
                refine JD.calc 45 (by kernel_rfl) rfl ⟨_, rfl, (congrArg Value.bool (decide_eq_true c73))⟩ ss_subB (q_fa rfl) ?_
                refine JD.loadB 46 (by kernel_rfl) rfl ⟨_, rfl, (congrArg Value.bool (decide_eq_true c73))⟩ (q_ldf rfl (hc40.cell (j := 0) rfl)) ?_
                refine JD.calc 47 (by kernel_rfl) rfl ⟨_, rfl, (congrArg Value.bool (decide_eq_true c73))⟩ ss_subB (q_geq rfl rfl) ?_
                first | refine JD.calc 48 (by kernel_rfl) rfl ⟨_, rfl, (congrArg Value.bool (decide_eq_false c72))⟩ ss_subB (q_pickTv (v := .bool _) rfl (decide_eq_true c73) rfl) ?_ | refine JD.calc 48 (by kernel_rfl) rfl ⟨_, rfl, (congrArg Value.bool (decide_eq_false c72))⟩ ss_subB (q_pickT rfl (decide_eq_true c73)) ?_
                first | refine JD.calc 49 (by kernel_rfl) rfl trivial ss_subB (q_pickFv (v := .bool _) rfl (decide_eq_false c72) rfl) ?_ | refine JD.calc 49 (by kernel_rfl) rfl trivial ss_subB (q_pickF rfl (decide_eq_false c72)) ?_
                refine JD.done (by kernel_rfl) ?_ _
                --
                by_cases c91 : x33.Col ≤ x75.Col
                ·
                  replace hm := ite_T c91 hm
                  refine J.condT rfl (decide_eq_true c91) ?_
                  refine J.seq ?_
                  refine J.region ?_
                  first | refine o_q (q_asv (v := .bool _) rfl) ?_ | refine o_q (q_as) ?_
                  refine JL.nil ?_
                  replace hm := inr_onward hm hk31
                  refine J.ret ?_
                  obtain rfl := Option.some.inj hm
                  exact ret_ok (fn := Try.f16) rfl (.tmp rfl .nil) rfl
                ·
                  replace hm := ite_F c91 hm
                  refine J.condF rfl (decide_eq_false c91) ?_
                  refine J.skip ?_
                  refine J.region ?_
                  first | refine o_q (q_mvv (v := .int _ _) rfl) ?_ | refine o_q (q_mv) ?_
                  refine o_q (q_add rfl rfl (wi64 k36)) ?_
                  first | refine o_q (q_asv (v := .int _ _) rfl) ?_ | refine o_q (q_as) ?_
                  refine JL.nil ?_
                  replace hm := inl_onward hm hk31
                  exact ⟨(i26 + 1), rfl, ⟨rfl, rfl, trivial⟩, ⟨rfl, trivial⟩, ⟨hm, inferInstance⟩, (muL hl34), inferInstance⟩
              ·
                replace hm := ite_F c73 hm
                refine J.drawB [] [] ?_
                first | refine JD.calc 0 (by kernel_rfl) rfl trivial ss_subB (q_mvv (v := .bool _) rfl) ?_ | refine JD.calc 0 (by kernel_rfl) rfl trivial ss_subB (q_mv) ?_
                refine JD.calc 1 (by kernel_rfl) rfl trivial ss_subB (q_not rfl) ?_
                first | refine JD.calc 2 (by kernel_rfl) rfl trivial ss_subB (q_mvv (v := .bool _) rfl) ?_ | refine JD.calc 2 (by kernel_rfl) rfl trivial ss_subB (q_mv) ?_
                first | refine JD.calc 3 (by kernel_rfl) rfl ⟨_, rfl, (congrArg Value.bool (congrArg Bool.not (show y52 = true from c53)))⟩ ss_subB (q_mvv (v := .slice _ _ _) rfl) ?_ | refine JD.calc 3 (by kernel_rfl) rfl ⟨_, rfl, (congrArg Value.bool (congrArg Bool.not (show y52 = true from c53)))⟩ ss_subB (q_mv) ?_
                first | refine JD.calc 4 (by kernel_rfl) rfl ⟨_, rfl, (congrArg Value.bool (congrArg Bool.not (show y52 = true from c53)))⟩ ss_subB (q_mvv (v := .int _ _) rfl) ?_ | refine JD.calc 4 (by kernel_rfl) rfl ⟨_, rfl, (congrArg Value.bool (congrArg Bool.not (show y52 = true from c53)))⟩ ss_subB (q_mv) ?_
                refine JD.calc 5 (by kernel_rfl) rfl ⟨_, rfl, (congrArg Value.bool (congrArg Bool.not (show y52 = true from c53)))⟩ ss_subB (q_ian rfl rfl rfl (by first | exact hl34 | (rw [Sls.len f24]; exact hl34))) ?_
                refine JD.calc 6 (by kernel_rfl) rfl ⟨_, rfl, (congrArg Value.bool (congrArg Bool.not (show y52 = true from c53)))⟩ ss_subB (q_fa rfl) ?_
                refine JD.loadB 7 (by kernel_rfl) rfl ⟨_, rfl, (congrArg Value.bool (congrArg Bool.not (show y52 = true from c53)))⟩ (q_ldfs (vs := [_, _]) rfl hc40 rfl) ?_
                refine JD.one 8 (by kernel_rfl) ?_
                refine JX.effB rfl rfl ⟨_, rfl, (congrArg Value.bool (congrArg Bool.not (show y52 = true from c53)))⟩ ?_
                refine o_call (rsign_fn (IntR.at (Mo.up f46)) e61) (fun v57 h58 s59 r60 => ?_)
                obtain rfl := (show _ = _ from r60)
                refine JL.nil ⟨rfl, inferInstance, inferInstance, ?_⟩
                refine JD.calc 9 (by kernel_rfl) rfl ⟨_, rfl, (congrArg Value.bool (congrArg Bool.not (show y52 = true from c53)))⟩ ss_subB (q_eql rfl rfl) ?_
                first | refine JD.calc 10 (by kernel_rfl) rfl trivial ss_subB (q_pickFv (v := .bool _) rfl (congrArg Bool.not (show y52 = true from c53)) rfl) ?_ | refine JD.calc 10 (by kernel_rfl) rfl trivial ss_subB (q_pickF rfl (congrArg Bool.not (show y52 = true from c53))) ?_
                first | refine JD.calc 11 (by kernel_rfl) rfl trivial ss_subB (q_mvv (v := .bool _) rfl) ?_ | refine JD.calc 11 (by kernel_rfl) rfl trivial ss_subB (q_mv) ?_
                first | refine JD.calc 12 (by kernel_rfl) rfl ⟨_, rfl, (congrArg Value.bool (decide_eq_false c63))⟩ ss_subB (q_mvv (v := .slice _ _ _) rfl) ?_ | refine JD.calc 12 (by kernel_rfl) rfl ⟨_, rfl, (congrArg Value.bool (decide_eq_false c63))⟩ ss_subB (q_mv) ?_
                first | refine JD.calc 13 (by kernel_rfl) rfl ⟨_, rfl, (congrArg Value.bool (decide_eq_false c63))⟩ ss_subB (q_mvv (v := .int _ _) rfl) ?_ | refine JD.calc 13 (by kernel_rfl) rfl ⟨_, rfl, (congrArg Value.bool (decide_eq_false c63))⟩ ss_subB (q_mv) ?_
                refine JD.calc 14 (by kernel_rfl) rfl ⟨_, rfl, (congrArg Value.bool (decide_eq_false c63))⟩ ss_subB (q_ian rfl rfl rfl (by first | exact hl34 | (rw [Sls.len f24]; exact hl34))) ?_
                refine JD.calc 15 (by kernel_rfl) rfl ⟨_, rfl, (congrArg Value.bool (decide_eq_false c63))⟩ ss_subB (q_fa rfl) ?_
                refine JD.loadB 16 (by kernel_rfl) rfl ⟨_, rfl, (congrArg Value.bool (decide_eq_false c63))⟩ (q_ldf rfl (hc40.cell (j := 0) rfl)) ?_
                refine JD.calc 17 (by kernel_rfl) rfl ⟨_, rfl, (congrArg Value.bool (decide_eq_false c63))⟩ ss_subB (q_lss rfl rfl) ?_
                first | refine JD.calc 18 (by kernel_rfl) rfl trivial ss_subB (q_pickFv (v := .bool _) rfl (decide_eq_false c63) rfl) ?_ | refine JD.calc 18 (by kernel_rfl) rfl trivial ss_subB (q_pickF rfl (decide_eq_false c63)) ?_
                first | refine JD.calc 19 (by kernel_rfl) rfl trivial ss_subB (q_mvv (v := .bool _) rfl) ?_ | refine JD.calc 19 (by kernel_rfl) rfl trivial ss_subB (q_mv) ?_
                first | refine JD.calc 20 (by kernel_rfl) rfl ⟨_, rfl, (congrArg Value.bool (decide_eq_false c67))⟩ ss_subB (q_mvv (v := .int _ _) rfl) ?_ | refine JD.calc 20 (by kernel_rfl) rfl ⟨_, rfl, (congrArg Value.bool (decide_eq_false c67))⟩ ss_subB (q_mv) ?_
                refine JD.calc 21 (by kernel_rfl) rfl ⟨_, rfl, (congrArg Value.bool (decide_eq_false c67))⟩ ss_subB (q_geq rfl rfl) ?_
                first | refine JD.calc 22 (by kernel_rfl) rfl ⟨_, rfl, (congrArg Value.bool (decide_eq_false c67))⟩ ss_subB (q_mvv (v := .bool _) rfl) ?_ | refine JD.calc 22 (by kernel_rfl) rfl ⟨_, rfl, (congrArg Value.bool (decide_eq_false c67))⟩ ss_subB (q_mv) ?_
                first | refine JD.calc 23 (by kernel_rfl) rfl ⟨_, rfl, (congrArg Value.bool (decide_eq_true c68))⟩ ss_subB (q_mvv (v := .slice _ _ _) rfl) ?_ | refine JD.calc 23 (by kernel_rfl) rfl ⟨_, rfl, (congrArg Value.bool (decide_eq_true c68))⟩ ss_subB (q_mv) ?_
                first | refine JD.calc 24 (by kernel_rfl) rfl ⟨_, rfl, (congrArg Value.bool (decide_eq_true c68))⟩ ss_subB (q_mvv (v := .int _ _) rfl) ?_ | refine JD.calc 24 (by kernel_rfl) rfl ⟨_, rfl, (congrArg Value.bool (decide_eq_true c68))⟩ ss_subB (q_mv) ?_
                refine JD.calc 25 (by kernel_rfl) rfl ⟨_, rfl, (congrArg Value.bool (decide_eq_true c68))⟩ ss_subB (q_ian rfl rfl rfl (by first | exact hl34 | (rw [Sls.len f24]; exact hl34))) ?_
                refine JD.calc 26 (by kernel_rfl) rfl ⟨_, rfl, (congrArg Value.bool (decide_eq_true c68))⟩ ss_subB (q_fa rfl) ?_
                refine JD.loadB 27 (by kernel_rfl) rfl ⟨_, rfl, (congrArg Value.bool (decide_eq_true c68))⟩ (q_ldf rfl (hc40.cell (j := 0) rfl)) ?_
                first | refine JD.calc 28 (by kernel_rfl) rfl ⟨_, rfl, (congrArg Value.bool (decide_eq_true c68))⟩ ss_subB (q_mvv (v := .int _ _) rfl) ?_ | refine JD.calc 28 (by kernel_rfl) rfl ⟨_, rfl, (congrArg Value.bool (decide_eq_true c68))⟩ ss_subB (q_mv) ?_
                refine JD.calc 29 (by kernel_rfl) rfl ⟨_, rfl, (congrArg Value.bool (decide_eq_true c68))⟩ ss_subB (q_geq rfl rfl) ?_
                first | refine JD.calc 30 (by kernel_rfl) rfl ⟨_, rfl, (congrArg Value.bool (decide_eq_false c67))⟩ ss_subB (q_pickTv (v := .bool _) rfl (decide_eq_true c68) rfl) ?_ | refine JD.calc 30 (by kernel_rfl) rfl ⟨_, rfl, (congrArg Value.bool (decide_eq_false c67))⟩ ss_subB (q_pickT rfl (decide_eq_true c68)) ?_
                first | refine JD.calc 31 (by kernel_rfl) rfl trivial ss_subB (q_pickFv (v := .bool _) rfl (decide_eq_false c67) rfl) ?_ | refine JD.calc 31 (by kernel_rfl) rfl trivial ss_subB (q_pickF rfl (decide_eq_false c67)) ?_
                first | refine JD.calc 32 (by kernel_rfl) rfl trivial ss_subB (q_mvv (v := .bool _) rfl) ?_ | refine JD.calc 32 (by kernel_rfl) rfl trivial ss_subB (q_mv) ?_
                first | refine JD.calc 33 (by kernel_rfl) rfl ⟨_, rfl, (congrArg Value.bool (decide_eq_false c72))⟩ ss_subB (q_mvv (v := .int _ _) rfl) ?_ | refine JD.calc 33 (by kernel_rfl) rfl ⟨_, rfl, (congrArg Value.bool (decide_eq_false c72))⟩ ss_subB (q_mv) ?_
                refine JD.calc 34 (by kernel_rfl) rfl ⟨_, rfl, (congrArg Value.bool (decide_eq_false c72))⟩ ss_subB (q_gtr rfl rfl) ?_
                first | refine JD.calc 35 (by kernel_rfl) rfl ⟨_, rfl, (congrArg Value.bool (decide_eq_false c72))⟩ ss_subB (q_mvv (v := .bool _) rfl) ?_ | refine JD.calc 35 (by kernel_rfl) rfl ⟨_, rfl, (congrArg Value.bool (decide_eq_false c72))⟩ ss_subB (q_mv) ?_
                refine JD.pass 36 (by kernel_rfl) rfl rfl (congrArg Value.bool (decide_eq_false c73)) ss_subB ?_
                refine JD.pass 37 (by kernel_rfl) rfl rfl (congrArg Value.bool (decide_eq_false c73)) ss_subB ?_
                refine JD.pass 38 (by kernel_rfl) rfl rfl (congrArg Value.bool (decide_eq_false c73)) ss_subB ?_
                refine JD.pass 39 (by kernel_rfl) rfl rfl (congrArg Value.bool (decide_eq_false c73)) ss_subB ?_
                refine JD.pass 40 (by kernel_rfl) rfl rfl (congrArg Value.bool (decide_eq_false c73)) ss_subB ?_
                refine JD.pass 41 (by kernel_rfl) rfl rfl (congrArg Value.bool (decide_eq_false c73)) ss_subB ?_
                refine JD.pass 42 (by kernel_rfl) rfl rfl (congrArg Value.bool (decide_eq_false c73)) ss_subB ?_
                refine JD.pass 43 (by kernel_rfl) rfl rfl (congrArg Value.bool (decide_eq_false c73)) ss_subB ?_
                refine JD.pass 44 (by kernel_rfl) rfl rfl (congrArg Value.bool (decide_eq_false c73)) ss_subB ?_
                refine JD.pass 45 (by kernel_rfl) rfl rfl (congrArg Value.bool (decide_eq_false c73)) ss_subB ?_
                refine JD.pass 46 (by kernel_rfl) rfl rfl (congrArg Value.bool (decide_eq_false c73)) ss_subB ?_
                refine JD.pass 47 (by kernel_rfl) rfl rfl (congrArg Value.bool (decide_eq_false c73)) ss_subB ?_
                first | refine JD.calc 48 (by kernel_rfl) rfl ⟨_, rfl, (congrArg Value.bool (decide_eq_false c72))⟩ ss_subB (q_pickFv (v := .bool _) rfl (decide_eq_false c73) rfl) ?_ | refine JD.calc 48 (by kernel_rfl) rfl ⟨_, rfl, (congrArg Value.bool (decide_eq_false c72))⟩ ss_subB (q_pickF rfl (decide_eq_false c73)) ?_
                first | refine JD.calc 49 (by kernel_rfl) rfl trivial ss_subB (q_pickFv (v := .bool _) rfl (decide_eq_false c72) rfl) ?_ | refine JD.calc 49 (by kernel_rfl) rfl trivial ss_subB (q_pickF rfl (decide_eq_false c72)) ?_
                refine JD.done (by kernel_rfl) ?_ _
                --
                refine J.condF rfl rfl ?_
                refine J.skip ?_
                refine J.region ?_
                first | refine o_q (q_mvv (v := .int _ _) rfl) ?_ | refine o_q (q_mv) ?_
                refine o_q (q_add rfl rfl (wi64 k36)) ?_
                first | refine o_q (q_asv (v := .int _ _) rfl) ?_ | refine o_q (q_as) ?_
                refine JL.nil ?_
                replace hm := inl_onward hm hk31
                exact ⟨(i26 + 1), rfl, ⟨rfl, rfl, trivial⟩, ⟨rfl, trivial⟩, ⟨hm, inferInstance⟩, (muL hl34), inferInstance⟩
          ·
            replace hm := ite_F c68 hm
            by_cases c92 : 0 < (i26 : Int)
            ·
              replace hm := ite_T c92 hm
              obtain ⟨k93, hm⟩ := chk64_some hm
              obtain ⟨i95, x94, hi96, hl97, hx98, hm⟩ := nth_some hm
              obtain ⟨us99, hc100, hR101⟩ := Sls.at f24 hx98
              obtain ⟨g102, p103, n104, c105, rfl, f106⟩ := hR101
              refine J.drawB [] [] ?_
              first | refine JD.calc 0 (by kernel_rfl) rfl trivial ss_subB (q_mvv (v := .bool _) rfl) ?_ | refine JD.calc 0 (by kernel_rfl) rfl trivial ss_subB (q_mv) ?_
              refine JD.calc 1 (by kernel_rfl) rfl trivial ss_subB (q_not rfl) ?_
              first | refine JD.calc 2 (by kernel_rfl) rfl trivial ss_subB (q_mvv (v := .bool _) rfl) ?_ | refine JD.calc 2 (by kernel_rfl) rfl trivial ss_subB (q_mv) ?_
              first | refine JD.calc 3 (by kernel_rfl) rfl ⟨_, rfl, (congrArg Value.bool (congrArg Bool.not (show y52 = true from c53)))⟩ ss_subB (q_mvv (v := .slice _ _ _) rfl) ?_ | refine JD.calc 3 (by kernel_rfl) rfl ⟨_, rfl, (congrArg Value.bool (congrArg Bool.not (show y52 = true from c53)))⟩ ss_subB (q_mv) ?_
              first | refine JD.calc 4 (by kernel_rfl) rfl ⟨_, rfl, (congrArg Value.bool (congrArg Bool.not (show y52 = true from c53)))⟩ ss_subB (q_mvv (v := .int _ _) rfl) ?_ | refine JD.calc 4 (by kernel_rfl) rfl ⟨_, rfl, (congrArg Value.bool (congrArg Bool.not (show y52 = true from c53)))⟩ ss_subB (q_mv) ?_
              refine JD.calc 5 (by kernel_rfl) rfl ⟨_, rfl, (congrArg Value.bool (congrArg Bool.not (show y52 = true from c53)))⟩ ss_subB (q_ian rfl rfl rfl (by first | exact hl34 | (rw [Sls.len f24]; exact hl34))) ?_
              refine JD.calc 6 (by kernel_rfl) rfl ⟨_, rfl, (congrArg Value.bool (congrArg Bool.not (show y52 = true from c53)))⟩ ss_subB (q_fa rfl) ?_
              refine JD.loadB 7 (by kernel_rfl) rfl ⟨_, rfl, (congrArg Value.bool (congrArg Bool.not (show y52 = true from c53)))⟩ (q_ldfs (vs := [_, _]) rfl hc40 rfl) ?_
              refine JD.one 8 (by kernel_rfl) ?_
              refine JX.effB rfl rfl ⟨_, rfl, (congrArg Value.bool (congrArg Bool.not (show y52 = true from c53)))⟩ ?_
              refine o_call (rsign_fn (IntR.at (Mo.up f46)) e61) (fun v57 h58 s59 r60 => ?_)
              obtain rfl := (show _ = _ from r60)
              refine JL.nil ⟨rfl, inferInstance, inferInstance, ?_⟩
              refine JD.calc 9 (by kernel_rfl) rfl ⟨_, rfl, (congrArg Value.bool (congrArg Bool.not (show y52 = true from c53)))⟩ ss_subB (q_eql rfl rfl) ?_
              first | refine JD.calc 10 (by kernel_rfl) rfl trivial ss_subB (q_pickFv (v := .bool _) rfl (congrArg Bool.not (show y52 = true from c53)) rfl) ?_ | refine JD.calc 10 (by kernel_rfl) rfl trivial ss_subB (q_pickF rfl (congrArg Bool.not (show y52 = true from c53))) ?_
              first | refine JD.calc 11 (by kernel_rfl) rfl trivial ss_subB (q_mvv (v := .bool _) rfl) ?_ | refine JD.calc 11 (by kernel_rfl) rfl trivial ss_subB (q_mv) ?_
              first | refine JD.calc 12 (by kernel_rfl) rfl ⟨_, rfl, (congrArg Value.bool (decide_eq_false c63))⟩ ss_subB (q_mvv (v := .slice _ _ _) rfl) ?_ | refine JD.calc 12 (by kernel_rfl) rfl ⟨_, rfl, (congrArg Value.bool (decide_eq_false c63))⟩ ss_subB (q_mv) ?_
              first | refine JD.calc 13 (by kernel_rfl) rfl ⟨_, rfl, (congrArg Value.bool (decide_eq_false c63))⟩ ss_subB (q_mvv (v := .int _ _) rfl) ?_ | refine JD.calc 13 (by kernel_rfl) rfl ⟨_, rfl, (congrArg Value.bool (decide_eq_false c63))⟩ ss_subB (q_mv) ?_
              refine JD.calc 14 (by kernel_rfl) rfl ⟨_, rfl, (congrArg Value.bool (decide_eq_false c63))⟩ ss_subB (q_ian rfl rfl rfl (by first | exact hl34 | (rw [Sls.len f24]; exact hl34))) ?_
              refine JD.calc 15 (by kernel_rfl) rfl ⟨_, rfl, (congrArg Value.bool (decide_eq_false c63))⟩ ss_subB (q_fa rfl) ?_
              refine JD.loadB 16 (by kernel_rfl) rfl ⟨_, rfl, (congrArg Value.bool (decide_eq_false c63))⟩ (q_ldf rfl (hc40.cell (j := 0) rfl)) ?_
              refine JD.calc 17 (by kernel_rfl) rfl ⟨_, rfl, (congrArg Value.bool (decide_eq_false c63))⟩ ss_subB (q_lss rfl rfl) ?_
              first | refine JD.calc 18 (by kernel_rfl) rfl trivial ss_subB (q_pickFv (v := .bool _) rfl (decide_eq_false c63) rfl) ?_ | refine JD.calc 18 (by kernel_rfl) rfl trivial ss_subB (q_pickF rfl (decide_eq_false c63)) ?_
              first | refine JD.calc 19 (by kernel_rfl) rfl trivial ss_subB (q_mvv (v := .bool _) rfl) ?_ | refine JD.calc 19 (by kernel_rfl) rfl trivial ss_subB (q_mv) ?_
              first | refine JD.calc 20 (by kernel_rfl) rfl ⟨_, rfl, (congrArg Value.bool (decide_eq_false c67))⟩ ss_subB (q_mvv (v := .int _ _) rfl) ?_ | refine JD.calc 20 (by kernel_rfl) rfl ⟨_, rfl, (congrArg Value.bool (decide_eq_false c67))⟩ ss_subB (q_mv) ?_
              refine JD.calc 21 (by kernel_rfl) rfl ⟨_, rfl, (congrArg Value.bool (decide_eq_false c67))⟩ ss_subB (q_geq rfl rfl) ?_
              first | refine JD.calc 22 (by kernel_rfl) rfl ⟨_, rfl, (congrArg Value.bool (decide_eq_false c67))⟩ ss_subB (q_mvv (v := .bool _) rfl) ?_ | refine JD.calc 22 (by kernel_rfl) rfl ⟨_, rfl, (congrArg Value.bool (decide_eq_false c67))⟩ ss_subB (q_mv) ?_
              refine JD.pass 23 (by kernel_rfl) rfl rfl (congrArg Value.bool (decide_eq_false c68)) ss_subB ?_
              refine JD.pass 24 (by kernel_rfl) rfl rfl (congrArg Value.bool (decide_eq_false c68)) ss_subB ?_
              refine JD.pass 25 (by kernel_rfl) rfl rfl (congrArg Value.bool (decide_eq_false c68)) ss_subB ?_
              refine JD.pass 26 (by kernel_rfl) rfl rfl (congrArg Value.bool (decide_eq_false c68)) ss_subB ?_
              refine JD.pass 27 (by kernel_rfl) rfl rfl (congrArg Value.bool (decide_eq_false c68)) ss_subB ?_
              refine JD.pass 28 (by kernel_rfl) rfl rfl (congrArg Value.bool (decide_eq_false c68)) ss_subB ?_
              refine JD.pass 29 (by kernel_rfl) rfl rfl (congrArg Value.bool (decide_eq_false c68)) ss_subB ?_
              first | refine JD.calc 30 (by kernel_rfl) rfl ⟨_, rfl, (congrArg Value.bool (decide_eq_false c67))⟩ ss_subB (q_pickFv (v := .bool _) rfl (decide_eq_false c68) rfl) ?_ | refine JD.calc 30 (by kernel_rfl) rfl ⟨_, rfl, (congrArg Value.bool (decide_eq_false c67))⟩ ss_subB (q_pickF rfl (decide_eq_false c68)) ?_
              first | refine JD.calc 31 (by kernel_rfl) rfl trivial ss_subB (q_pickFv (v := .bool _) rfl (decide_eq_false c67) rfl) ?_ | refine JD.calc 31 (by kernel_rfl) rfl trivial ss_subB (q_pickF rfl (decide_eq_false c67)) ?_
              first | refine JD.calc 32 (by kernel_rfl) rfl trivial ss_subB (q_mvv (v := .bool _) rfl) ?_ | refine JD.calc 32 (by kernel_rfl) rfl trivial ss_subB (q_mv) ?_
              first | refine JD.calc 33 (by kernel_rfl) rfl ⟨_, rfl, rfl⟩ ss_subB (q_mvv (v := .int _ _) rfl) ?_ | refine JD.calc 33 (by kernel_rfl) rfl ⟨_, rfl, rfl⟩ ss_subB (q_mv) ?_
              refine JD.calc 34 (by kernel_rfl) rfl ⟨_, rfl, rfl⟩ ss_subB (q_gtr rfl rfl) ?_
              first | refine JD.calc 35 (by kernel_rfl) rfl ⟨_, rfl, rfl⟩ ss_subB (q_mvv (v := .bool _) rfl) ?_ | refine JD.calc 35 (by kernel_rfl) rfl ⟨_, rfl, rfl⟩ ss_subB (q_mv) ?_
              first | refine JD.calc 36 (by kernel_rfl) rfl ⟨_, rfl, (congrArg Value.bool (decide_eq_true c92))⟩ ss_subB (q_mvv (v := .slice _ _ _) rfl) ?_ | refine JD.calc 36 (by kernel_rfl) rfl ⟨_, rfl, (congrArg Value.bool (decide_eq_true c92))⟩ ss_subB (q_mv) ?_
              first | refine JD.calc 37 (by kernel_rfl) rfl ⟨_, rfl, (congrArg Value.bool (decide_eq_true c92))⟩ ss_subB (q_mvv (v := .int _ _) rfl) ?_ | refine JD.calc 37 (by kernel_rfl) rfl ⟨_, rfl, (congrArg Value.bool (decide_eq_true c92))⟩ ss_subB (q_mv) ?_
              refine JD.calc 38 (by kernel_rfl) rfl ⟨_, rfl, (congrArg Value.bool (decide_eq_true c92))⟩ ss_subB (q_sub rfl rfl (wi64 k93)) ?_
              refine JD.calc 39 (by kernel_rfl) rfl ⟨_, rfl, (congrArg Value.bool (decide_eq_true c92))⟩ ss_subB (q_ian rfl rfl hi96 (by first | exact hl97 | (rw [Sls.len f24]; exact hl97))) ?_
              refine JD.calc 40 (by kernel_rfl) rfl ⟨_, rfl, (congrArg Value.bool (decide_eq_true c92))⟩ ss_subB (q_fa rfl) ?_
              refine JD.loadB 41 (by kernel_rfl) rfl ⟨_, rfl, (congrArg Value.bool (decide_eq_true c92))⟩ (q_ldf rfl (hc100.cell (j := 0) rfl)) ?_
              first | refine JD.calc 42 (by kernel_rfl) rfl ⟨_, rfl, (congrArg Value.bool (decide_eq_true c92))⟩ ss_subB (q_mvv (v := .slice _ _ _) rfl) ?_ | refine JD.calc 42 (by kernel_rfl) rfl ⟨_, rfl, (congrArg Value.bool (decide_eq_true c92))⟩ ss_subB (q_mv) ?_
              first | refine JD.calc 43 (by kernel_rfl) rfl ⟨_, rfl, (congrArg Value.bool (decide_eq_true c92))⟩ ss_subB (q_mvv (v := .int _ _) rfl) ?_ | refine JD.calc 43 (by kernel_rfl) rfl ⟨_, rfl, (congrArg Value.bool (decide_eq_true c92))⟩ ss_subB (q_mv) ?_
              refine JD.calc 44 (by kernel_rfl) rfl ⟨_, rfl, (congrArg Value.bool (decide_eq_true c92))⟩ ss_subB (q_ian rfl rfl rfl (by first | exact hl34 | (rw [Sls.len f24]; exact hl34))) ?_
              refine JD.calc 45 (by kernel_rfl) rfl ⟨_, rfl, (congrArg Value.bool (decide_eq_true c92))⟩ ss_subB (q_fa rfl) ?_
              refine JD.loadB 46 (by kernel_rfl) rfl ⟨_, rfl, (congrArg Value.bool (decide_eq_true c92))⟩ (q_ldf rfl (hc40.cell (j := 0) rfl)) ?_
              refine JD.calc 47 (by kernel_rfl) rfl ⟨_, rfl, (congrArg Value.bool (decide_eq_true c92))⟩ ss_subB (q_geq rfl rfl) ?_
              first | refine JD.calc 48 (by kernel_rfl) rfl ⟨_, rfl, rfl⟩ ss_subB (q_pickTv (v := .bool _) rfl (decide_eq_true c92) rfl) ?_ | refine JD.calc 48 (by kernel_rfl) rfl ⟨_, rfl, rfl⟩ ss_subB (q_pickT rfl (decide_eq_true c92)) ?_
              first | refine JD.calc 49 (by kernel_rfl) rfl trivial ss_subB (q_pickFv (v := .bool _) rfl rfl rfl) ?_ | refine JD.calc 49 (by kernel_rfl) rfl trivial ss_subB (q_pickF rfl rfl) ?_
              refine JD.done (by kernel_rfl) ?_ _
              --
              by_cases c110 : x33.Col ≤ x94.Col
              ·
                replace hm := ite_T c110 hm
                refine J.condT rfl (decide_eq_true c110) ?_
                refine J.seq ?_
                refine J.region ?_
                first | refine o_q (q_asv (v := .bool _) rfl) ?_ | refine o_q (q_as) ?_
                refine JL.nil ?_
                replace hm := inr_onward hm hk31
                refine J.ret ?_
                obtain rfl := Option.some.inj hm
                exact ret_ok (fn := Try.f16) rfl (.tmp rfl .nil) rfl
              ·
                replace hm := ite_F c110 hm
                refine J.condF rfl (decide_eq_false c110) ?_
                refine J.skip ?_
                refine J.region ?_
                first | refine o_q (q_mvv (v := .int _ _) rfl) ?_ | refine o_q (q_mv) ?_
                refine o_q (q_add rfl rfl (wi64 k36)) ?_
                first | refine o_q (q_asv (v := .int _ _) rfl) ?_ | refine o_q (q_as) ?_
                refine JL.nil ?_
                replace hm := inl_onward hm hk31
                exact ⟨(i26 + 1), rfl, ⟨rfl, rfl, trivial⟩, ⟨rfl, trivial⟩, ⟨hm, inferInstance⟩, (muL hl34), inferInstance⟩
            ·
              replace hm := ite_F c92 hm
              refine J.drawB [] [] ?_
              first | refine JD.calc 0 (by kernel_rfl) rfl trivial ss_subB (q_mvv (v := .bool _) rfl) ?_ | refine JD.calc 0 (by kernel_rfl) rfl trivial ss_subB (q_mv) ?_
              refine JD.calc 1 (by kernel_rfl) rfl trivial ss_subB (q_not rfl) ?_
              first | refine JD.calc 2 (by kernel_rfl) rfl trivial ss_subB (q_mvv (v := .bool _) rfl) ?_ | refine JD.calc 2 (by kernel_rfl) rfl trivial ss_subB (q_mv) ?_
              first | refine JD.calc 3 (by kernel_rfl) rfl ⟨_, rfl, (congrArg Value.bool (congrArg Bool.not (show y52 = true from c53)))⟩ ss_subB (q_mvv (v := .slice _ _ _) rfl) ?_ | refine JD.calc 3 (by kernel_rfl) rfl ⟨_, rfl, (congrArg Value.bool (congrArg Bool.not (show y52 = true from c53)))⟩ ss_subB (q_mv) ?_
              first | refine JD.calc 4 (by kernel_rfl) rfl ⟨_, rfl, (congrArg Value.bool (congrArg Bool.not (show y52 = true from c53)))⟩ ss_subB (q_mvv (v := .int _ _) rfl) ?_ | refine JD.calc 4 (by kernel_rfl) rfl ⟨_, rfl, (congrArg Value.bool (congrArg Bool.not (show y52 = true from c53)))⟩ ss_subB (q_mv) ?_
              refine JD.calc 5 (by kernel_rfl) rfl ⟨_, rfl, (congrArg Value.bool (congrArg Bool.not (show y52 = true from c53)))⟩ ss_subB (q_ian rfl rfl rfl (by first | exact hl34 | (rw [Sls.len f24]; exact hl34))) ?_
              refine JD.calc 6 (by kernel_rfl) rfl ⟨_, rfl, (congrArg Value.bool (congrArg Bool.not (show y52 = true from c53)))⟩ ss_subB (q_fa rfl) ?_
              refine JD.loadB 7 (by kernel_rfl) rfl ⟨_, rfl, (congrArg Value.bool (congrArg Bool.not (show y52 = true from c53)))⟩ (q_ldfs (vs := [_, _]) rfl hc40 rfl) ?_
              refine JD.one 8 (by kernel_rfl) ?_
              refine JX.effB rfl rfl ⟨_, rfl, (congrArg Value.bool (congrArg Bool.not (show y52 = true from c53)))⟩ ?_
              refine o_call (rsign_fn (IntR.at (Mo.up f46)) e61) (fun v57 h58 s59 r60 => ?_)
              obtain rfl := (show _ = _ from r60)
              refine JL.nil ⟨rfl, inferInstance, inferInstance, ?_⟩
              refine JD.calc 9 (by kernel_rfl) rfl ⟨_, rfl, (congrArg Value.bool (congrArg Bool.not (show y52 = true from c53)))⟩ ss_subB (q_eql rfl rfl) ?_
              first | refine JD.calc 10 (by kernel_rfl) rfl trivial ss_subB (q_pickFv (v := .bool _) rfl (congrArg Bool.not (show y52 = true from c53)) rfl) ?_ | refine JD.calc 10 (by kernel_rfl) rfl trivial ss_subB (q_pickF rfl (congrArg Bool.not (show y52 = true from c53))) ?_
              first | refine JD.calc 11 (by kernel_rfl) rfl trivial ss_subB (q_mvv (v := .bool _) rfl) ?_ | refine JD.calc 11 (by kernel_rfl) rfl trivial ss_subB (q_mv) ?_
              first | refine JD.calc 12 (by kernel_rfl) rfl ⟨_, rfl, (congrArg Value.bool (decide_eq_false c63))⟩ ss_subB (q_mvv (v := .slice _ _ _) rfl) ?_ | refine JD.calc 12 (by kernel_rfl) rfl ⟨_, rfl, (congrArg Value.bool (decide_eq_false c63))⟩ ss_subB (q_mv) ?_
              first | refine JD.calc 13 (by kernel_rfl) rfl ⟨_, rfl, (congrArg Value.bool (decide_eq_false c63))⟩ ss_subB (q_mvv (v := .int _ _) rfl) ?_ | refine JD.calc 13 (by kernel_rfl) rfl ⟨_, rfl, (congrArg Value.bool (decide_eq_false c63))⟩ ss_subB (q_mv) ?_
              refine JD.calc 14 (by kernel_rfl) rfl ⟨_, rfl, (congrArg Value.bool (decide_eq_false c63))⟩ ss_subB (q_ian rfl rfl rfl (by first | exact hl34 | (rw [Sls.len f24]; exact hl34))) ?_
              refine JD.calc 15 (by kernel_rfl) rfl ⟨_, rfl, (congrArg Value.bool (decide_eq_false c63))⟩ ss_subB (q_fa rfl) ?_
              refine JD.loadB 16 (by kernel_rfl) rfl ⟨_, rfl, (congrArg Value.bool (decide_eq_false c63))⟩ (q_ldf rfl (hc40.cell (j := 0) rfl)) ?_
              refine JD.calc 17 (by kernel_rfl) rfl ⟨_, rfl, (congrArg Value.bool (decide_eq_false c63))⟩ ss_subB (q_lss rfl rfl) ?_
              first | refine JD.calc 18 (by kernel_rfl) rfl trivial ss_subB (q_pickFv (v := .bool _) rfl (decide_eq_false c63) rfl) ?_ | refine JD.calc 18 (by kernel_rfl) rfl trivial ss_subB (q_pickF rfl (decide_eq_false c63)) ?_
              first | refine JD.calc 19 (by kernel_rfl) rfl trivial ss_subB (q_mvv (v := .bool _) rfl) ?_ | refine JD.calc 19 (by kernel_rfl) rfl trivial ss_subB (q_mv) ?_
              first | refine JD.calc 20 (by kernel_rfl) rfl ⟨_, rfl, (congrArg Value.bool (decide_eq_false c67))⟩ ss_subB (q_mvv (v := .int _ _) rfl) ?_ | refine JD.calc 20 (by kernel_rfl) rfl ⟨_, rfl, (congrArg Value.bool (decide_eq_false c67))⟩ ss_subB (q_mv) ?_
              refine JD.calc 21 (by kernel_rfl) rfl ⟨_, rfl, (congrArg Value.bool (decide_eq_false c67))⟩ ss_subB (q_geq rfl rfl) ?_
              first | refine JD.calc 22 (by kernel_rfl) rfl ⟨_, rfl, (congrArg Value.bool (decide_eq_false c67))⟩ ss_subB (q_mvv (v := .bool _) rfl) ?_ | refine JD.calc 22 (by kernel_rfl) rfl ⟨_, rfl, (congrArg Value.bool (decide_eq_false c67))⟩ ss_subB (q_mv) ?_
              refine JD.pass 23 (by kernel_rfl) rfl rfl (congrArg Value.bool (decide_eq_false c68)) ss_subB ?_
              refine JD.pass 24 (by kernel_rfl) rfl rfl (congrArg Value.bool (decide_eq_false c68)) ss_subB ?_
              refine JD.pass 25 (by kernel_rfl) rfl rfl (congrArg Value.bool (decide_eq_false c68)) ss_subB ?_
              refine JD.pass 26 (by kernel_rfl) rfl rfl (congrArg Value.bool (decide_eq_false c68)) ss_subB ?_
              refine JD.pass 27 (by kernel_rfl) rfl rfl (congrArg Value.bool (decide_eq_false c68)) ss_subB ?_
              refine JD.pass 28 (by kernel_rfl) rfl rfl (congrArg Value.bool (decide_eq_false c68)) ss_subB ?_
              refine JD.pass 29 (by kernel_rfl) rfl rfl (congrArg Value.bool (decide_eq_false c68)) ss_subB ?_
              first | refine JD.calc 30 (by kernel_rfl) rfl ⟨_, rfl, (congrArg Value.bool (decide_eq_false c67))⟩ ss_subB (q_pickFv (v := .bool _) rfl (decide_eq_false c68) rfl) ?_ | refine JD.calc 30 (by kernel_rfl) rfl ⟨_, rfl, (congrArg Value.bool (decide_eq_false c67))⟩ ss_subB (q_pickF rfl (decide_eq_false c68)) ?_
              first | refine JD.calc 31 (by kernel_rfl) rfl trivial ss_subB (q_pickFv (v := .bool _) rfl (decide_eq_false c67) rfl) ?_ | refine JD.calc 31 (by kernel_rfl) rfl trivial ss_subB (q_pickF rfl (decide_eq_false c67)) ?_
              first | refine JD.calc 32 (by kernel_rfl) rfl trivial ss_subB (q_mvv (v := .bool _) rfl) ?_ | refine JD.calc 32 (by kernel_rfl) rfl trivial ss_subB (q_mv) ?_
              first | refine JD.calc 33 (by kernel_rfl) rfl ⟨_, rfl, rfl⟩ ss_subB (q_mvv (v := .int _ _) rfl) ?_ | refine JD.calc 33 (by kernel_rfl) rfl ⟨_, rfl, rfl⟩ ss_subB (q_mv) ?_
              refine JD.calc 34 (by kernel_rfl) rfl ⟨_, rfl, rfl⟩ ss_subB (q_gtr rfl rfl) ?_
              first | refine JD.calc 35 (by kernel_rfl) rfl ⟨_, rfl, rfl⟩ ss_subB (q_mvv (v := .bool _) rfl) ?_ | refine JD.calc 35 (by kernel_rfl) rfl ⟨_, rfl, rfl⟩ ss_subB (q_mv) ?_
              refine JD.pass 36 (by kernel_rfl) rfl rfl (congrArg Value.bool (decide_eq_false c92)) ss_subB ?_
              refine JD.pass 37 (by kernel_rfl) rfl rfl (congrArg Value.bool (decide_eq_false c92)) ss_subB ?_
              refine JD.pass 38 (by kernel_rfl) rfl rfl (congrArg Value.bool (decide_eq_false c92)) ss_subB ?_
              refine JD.pass 39 (by kernel_rfl) rfl rfl (congrArg Value.bool (decide_eq_false c92)) ss_subB ?_
              refine JD.pass 40 (by kernel_rfl) rfl rfl (congrArg Value.bool (decide_eq_false c92)) ss_subB ?_
              refine JD.pass 41 (by kernel_rfl) rfl rfl (congrArg Value.bool (decide_eq_false c92)) ss_subB ?_
              refine JD.pass 42 (by kernel_rfl) rfl rfl (congrArg Value.bool (decide_eq_false c92)) ss_subB ?_
              refine JD.pass 43 (by kernel_rfl) rfl rfl (congrArg Value.bool (decide_eq_false c92)) ss_subB ?_
              refine JD.pass 44 (by kernel_rfl) rfl rfl (congrArg Value.bool (decide_eq_false c92)) ss_subB ?_
              refine JD.pass 45 (by kernel_rfl) rfl rfl (congrArg Value.bool (decide_eq_false c92)) ss_subB ?_
              refine JD.pass 46 (by kernel_rfl) rfl rfl (congrArg Value.bool (decide_eq_false c92)) ss_subB ?_
              refine JD.pass 47 (by kernel_rfl) rfl rfl (congrArg Value.bool (decide_eq_false c92)) ss_subB ?_
              first | refine JD.calc 48 (by kernel_rfl) rfl ⟨_, rfl, rfl⟩ ss_subB (q_pickFv (v := .bool _) rfl (decide_eq_false c92) rfl) ?_ | refine JD.calc 48 (by kernel_rfl) rfl ⟨_, rfl, rfl⟩ ss_subB (q_pickF rfl (decide_eq_false c92)) ?_
              first | refine JD.calc 49 (by kernel_rfl) rfl trivial ss_subB (q_pickFv (v := .bool _) rfl rfl rfl) ?_ | refine JD.calc 49 (by kernel_rfl) rfl trivial ss_subB (q_pickF rfl rfl) ?_
              refine JD.done (by kernel_rfl) ?_ _
              --
              refine J.condF rfl rfl ?_
              refine J.skip ?_
              refine J.region ?_
              first | refine o_q (q_mvv (v := .int _ _) rfl) ?_ | refine o_q (q_mv) ?_
              refine o_q (q_add rfl rfl (wi64 k36)) ?_
              first | refine o_q (q_asv (v := .int _ _) rfl) ?_ | refine o_q (q_as) ?_
              refine JL.nil ?_
              replace hm := inl_onward hm hk31
              exact ⟨(i26 + 1), rfl, ⟨rfl, rfl, trivial⟩, ⟨rfl, trivial⟩, ⟨hm, inferInstance⟩, (muL hl34), inferInstance⟩
    ·
      replace hm := ite_F c53 hm
      refine J.drawB [] [] ?_
      first | refine JD.calc 0 (by kernel_rfl) rfl trivial ss_subB (q_mvv (v := .bool _) rfl) ?_ | refine JD.calc 0 (by kernel_rfl) rfl trivial ss_subB (q_mv) ?_
      refine JD.calc 1 (by kernel_rfl) rfl trivial ss_subB (q_not rfl) ?_
      first | refine JD.calc 2 (by kernel_rfl) rfl trivial ss_subB (q_mvv (v := .bool _) rfl) ?_ | refine JD.calc 2 (by kernel_rfl) rfl trivial ss_subB (q_mv) ?_
      refine JD.pass 3 (by kernel_rfl) rfl rfl (congrArg Value.bool (congrArg Bool.not (show y52 = false from (eq_false_of_ne_true c53)))) ss_subB ?_
      refine JD.pass 4 (by kernel_rfl) rfl rfl (congrArg Value.bool (congrArg Bool.not (show y52 = false from (eq_false_of_ne_true c53)))) ss_subB ?_
      refine JD.pass 5 (by kernel_rfl) rfl rfl (congrArg Value.bool (congrArg Bool.not (show y52 = false from (eq_false_of_ne_true c53)))) ss_subB ?_
      refine JD.pass 6 (by kernel_rfl) rfl rfl (congrArg Value.bool (congrArg Bool.not (show y52 = false from (eq_false_of_ne_true c53)))) ss_subB ?_
      refine JD.pass 7 (by kernel_rfl) rfl rfl (congrArg Value.bool (congrArg Bool.not (show y52 = false from (eq_false_of_ne_true c53)))) ss_subB ?_
      refine JD.pass 8 (by kernel_rfl) rfl rfl (congrArg Value.bool (congrArg Bool.not (show y52 = false from (eq_false_of_ne_true c53)))) ss_subB ?_
      refine JD.pass 9 (by kernel_rfl) rfl rfl (congrArg Value.bool (congrArg Bool.not (show y52 = false from (eq_false_of_ne_true c53)))) ss_subB ?_
      first | refine JD.calc 10 (by kernel_rfl) rfl trivial ss_subB (q_pickTv (v := .bool _) rfl (congrArg Bool.not (show y52 = false from (eq_false_of_ne_true c53))) rfl) ?_ | refine JD.calc 10 (by kernel_rfl) rfl trivial ss_subB (q_pickT rfl (congrArg Bool.not (show y52 = false from (eq_false_of_ne_true c53)))) ?_
      first | refine JD.calc 11 (by kernel_rfl) rfl trivial ss_subB (q_mvv (v := .bool _) rfl) ?_ | refine JD.calc 11 (by kernel_rfl) rfl trivial ss_subB (q_mv) ?_
      refine JD.pass 12 (by kernel_rfl) rfl rfl rfl ss_subB ?_
      refine JD.pass 13 (by kernel_rfl) rfl rfl rfl ss_subB ?_
      refine JD.pass 14 (by kernel_rfl) rfl rfl rfl ss_subB ?_
      refine JD.pass 15 (by kernel_rfl) rfl rfl rfl ss_subB ?_
      refine JD.pass 16 (by kernel_rfl) rfl rfl rfl ss_subB ?_
      refine JD.pass 17 (by kernel_rfl) rfl rfl rfl ss_subB ?_
      first | refine JD.calc 18 (by kernel_rfl) rfl trivial ss_subB (q_pickTv (v := .bool _) rfl rfl rfl) ?_ | refine JD.calc 18 (by kernel_rfl) rfl trivial ss_subB (q_pickT rfl rfl) ?_
      first | refine JD.calc 19 (by kernel_rfl) rfl trivial ss_subB (q_mvv (v := .bool _) rfl) ?_ | refine JD.calc 19 (by kernel_rfl) rfl trivial ss_subB (q_mv) ?_
      refine JD.pass 20 (by kernel_rfl) rfl rfl rfl ss_subB ?_
      refine JD.pass 21 (by kernel_rfl) rfl rfl rfl ss_subB ?_
      refine JD.pass 22 (by kernel_rfl) rfl rfl rfl ss_subB ?_
      refine JD.passU 23 (by kernel_rfl) rfl rfl rfl ss_subB ?_
      refine JD.passU 24 (by kernel_rfl) rfl rfl rfl ss_subB ?_
      refine JD.passU 25 (by kernel_rfl) rfl rfl rfl ss_subB ?_
      refine JD.passU 26 (by kernel_rfl) rfl rfl rfl ss_subB ?_
      refine JD.passU 27 (by kernel_rfl) rfl rfl rfl ss_subB ?_
      refine JD.passU 28 (by kernel_rfl) rfl rfl rfl ss_subB ?_
      refine JD.passU 29 (by kernel_rfl) rfl rfl rfl ss_subB ?_
      refine JD.pass 30 (by kernel_rfl) rfl rfl rfl ss_subB ?_
      first | refine JD.calc 31 (by kernel_rfl) rfl trivial ss_subB (q_pickTv (v := .bool _) rfl rfl rfl) ?_ | refine JD.calc 31 (by kernel_rfl) rfl trivial ss_subB (q_pickT rfl rfl) ?_
      first | refine JD.calc 32 (by kernel_rfl) rfl trivial ss_subB (q_mvv (v := .bool _) rfl) ?_ | refine JD.calc 32 (by kernel_rfl) rfl trivial ss_subB (q_mv) ?_
      refine JD.pass 33 (by kernel_rfl) rfl rfl rfl ss_subB ?_
      refine JD.pass 34 (by kernel_rfl) rfl rfl rfl ss_subB ?_
      refine JD.pass 35 (by kernel_rfl) rfl rfl rfl ss_subB ?_
      refine JD.passU 36 (by kernel_rfl) rfl rfl rfl ss_subB ?_
      refine JD.passU 37 (by kernel_rfl) rfl rfl rfl ss_subB ?_
      refine JD.passU 38 (by kernel_rfl) rfl rfl rfl ss_subB ?_
      refine JD.passU 39 (by kernel_rfl) rfl rfl rfl ss_subB ?_
      refine JD.passU 40 (by kernel_rfl) rfl rfl rfl ss_subB ?_
      refine JD.passU 41 (by kernel_rfl) rfl rfl rfl ss_subB ?_
      refine JD.passU 42 (by kernel_rfl) rfl rfl rfl ss_subB ?_
      refine JD.passU 43 (by kernel_rfl) rfl rfl rfl ss_subB ?_
      refine JD.passU 44 (by kernel_rfl) rfl rfl rfl ss_subB ?_
      refine JD.passU 45 (by kernel_rfl) rfl rfl rfl ss_subB ?_
      refine JD.passU 46 (by kernel_rfl) rfl rfl rfl ss_subB ?_
      refine JD.passU 47 (by kernel_rfl) rfl rfl rfl ss_subB ?_
      refine JD.pass 48 (by kernel_rfl) rfl rfl rfl ss_subB ?_
      first | refine JD.calc 49 (by kernel_rfl) rfl trivial ss_subB (q_pickTv (v := .bool _) rfl rfl rfl) ?_ | refine JD.calc 49 (by kernel_rfl) rfl trivial ss_subB (q_pickT rfl rfl) ?_
      refine JD.done (by kernel_rfl) ?_ _
      --
      refine J.condT rfl rfl ?_
      refine J.seq ?_
      refine J.region ?_
      first | refine o_q (q_asv (v := .bool _) rfl) ?_ | refine o_q (q_as) ?_
      refine JL.nil ?_
      replace hm := inr_onward hm hk31
      refine J.ret ?_
      obtain rfl := Option.some.inj hm
      exact ret_ok (fn := Try.f16) rfl (.tmp rfl .nil) rfl
  ·
    replace hm := forL_nil c32 hm
    unfold M.torsionref06_ValidRow_k1 at hm
    refine J.condF rfl (decide_eq_false c32) ?_
    refine J.exit ?_
    refine J.seq ?_
    refine J.region ?_
    first | refine o_q (q_asv (v := .bool _) rfl) ?_ | refine o_q (q_as) ?_
    refine JL.nil ?_
    refine J.ret ?_
    obtain rfl := Option.some.inj hm
    exact ret_ok (fn := Try.f16) rfl (.tmp rfl .nil) rfl
set_option maxHeartbeats 4000000 in
theorem torsionref06_Valid_fn {h : Heap} {x0 : TSparse} {v0 : Value} (r0 : AggV TSparseR h v0 x0) {r : Bool} (hm : M.torsionref06_Valid x0 = some r) :
    Fn Try.prog 11 #[v0] h fun v h' => v = .bool r := by
  obtain ⟨_, rfl, p21, n22, c23, rfl, f24⟩ := r0
  refine Fn.intro (args := [_]) Try.func11 rfl rfl (Nat.le_of_ble_eq_true rfl) fun w => ?_
  unfold M.torsionref06_Valid at hm
  refine J.seq ?_
  refine J.region ?_
  first | refine o_bx (v := .agg ⟨[.int _ _, .int _ _, .slice _ _ _]⟩) rfl rfl (fun b25 => ?_) | refine o_bx rfl rfl (fun b25 => ?_)
  first | refine o_q (q_asv (v := .bool _) rfl) ?_ | refine o_q (q_as) ?_
  refine JL.nil ?_
  refine J.seq ?_
  refine J.seq ?_
  refine J.joinK (α := Bool) (fun v27 h' L' => (M.torsionref06_Valid_j2 x0) v27 = some r ∧ Sp ([(b25, row 24 [.int .i64 x0.Rows, .int .i64 x0.Cols, .slice p21 n22 c23])]) L') [(1, .pointer _)] ⟨rfl, trivial⟩ (fun v27 => [(15, .bool v27)]) ?_ ?_
  ·
    by_cases c58 : x0.Rows = (x0.L.length : Int)
    ·
      replace hm := ite_T c58 hm
      refine J.region ?_
      refine o_q (q_fa rfl) ?_
      refine o_q (q_ld rfl inferInstance rfl) ?_
      refine o_q (q_fa rfl) ?_
      refine o_q (q_ld rfl inferInstance rfl) ?_
      refine o_q (q_lenE (k := x0.L.length) rfl (Sls.len f24)) ?_
      refine o_q (q_neq rfl rfl) ?_
      first | refine o_q (q_mvv (v := .bool _) rfl) ?_ | refine o_q (q_mv) ?_
      refine JL.guardT rfl rfl (decide_eq_false (fun z => z c58)) ?_
      refine o_q (q_fa rfl) ?_
      refine JL.guardT rfl rfl (decide_eq_false (fun z => z c58)) ?_
      refine o_q (q_ld rfl inferInstance rfl) ?_
      refine JL.guardT rfl rfl (decide_eq_false (fun z => z c58)) ?_
      refine o_q (q_lss rfl rfl) ?_
      first | refine o_q (q_pickFv (v := .bool _) rfl (decide_eq_false (fun z => z c58)) rfl) ?_ | refine o_q (q_pickF rfl (decide_eq_false (fun z => z c58))) ?_
      refine JL.nil ?_
      exact ⟨(decide (x0.Cols < 0)), rfl, ⟨rfl, trivial⟩, ⟨rfl, trivial⟩, ⟨hm, inferInstance⟩, inferInstance⟩
    ·
      replace hm := ite_F c58 hm
      refine J.region ?_
      refine o_q (q_fa rfl) ?_
      refine o_q (q_ld rfl inferInstance rfl) ?_
      refine o_q (q_fa rfl) ?_
      refine o_q (q_ld rfl inferInstance rfl) ?_
      refine o_q (q_lenE (k := x0.L.length) rfl (Sls.len f24)) ?_
      refine o_q (q_neq rfl rfl) ?_
      first | refine o_q (q_mvv (v := .bool _) rfl) ?_ | refine o_q (q_mv) ?_
      refine JL.guardF rfl rfl (decide_eq_true c58) rfl ?_
      refine JL.guardF rfl rfl (decide_eq_true c58) rfl ?_
      refine JL.guardF rfl rfl (decide_eq_true c58) rfl ?_
      first | refine o_q (q_pickTv (v := .bool _) rfl (decide_eq_true c58) rfl) ?_ | refine o_q (q_pickT rfl (decide_eq_true c58)) ?_
      refine JL.nil ?_
      exact ⟨true, rfl, ⟨rfl, trivial⟩, ⟨rfl, trivial⟩, ⟨hm, inferInstance⟩, inferInstance⟩
  ·
    rintro v27 σq28 hq28 Lq28 sq28 ⟨hm, hspq28⟩
    refine J.sp hspq28 ?_
    unfold M.torsionref06_Valid_j2 at hm
    by_cases c29 : v27 = true
    ·
      replace hm := ite_T c29 hm
      refine J.condT rfl c29 ?_
      refine J.seq ?_
      refine J.region ?_
      first | refine o_q (q_asv (v := .bool _) rfl) ?_ | refine o_q (q_as) ?_
      refine JL.nil ?_
      refine J.ret ?_
      obtain rfl := Option.some.inj hm
      exact ret_ok (fn := Try.f11) rfl (.tmp rfl .nil) rfl
    ·
      replace hm := ite_F c29 hm
      refine J.condF rfl (eq_false_of_ne_true c29) ?_
      refine J.skip ?_
      refine J.seq ?_
      refine J.seq ?_
      refine J.region ?_
      first | refine o_q (q_asv (v := .int _ _) rfl) ?_ | refine o_q (q_as) ?_
      refine JL.nil ?_
      refine J.block ?_
      obtain ⟨hl32, hm⟩ := rngL_some hm
      refine J.loopK (α := Nat) (fun i31 h' L' => forL (M.torsionref06_Valid_b1 x0) M.torsionref06_Valid_k1 (List.drop i31 x0.L) i31 () = some r ∧ Sp ([(b25, row 24 [.int .i64 x0.Rows, .int .i64 x0.Cols, .slice p21 n22 c23])]) L') [(1, .pointer _)] ⟨rfl, trivial⟩ (fun i31 => [(3, .int .i64 (i31 : Int))]) (fun i31 => x0.L.length - i31) 0 ⟨hm, inferInstance⟩ ⟨rfl, trivial⟩ ?_
      rintro i31 σq33 hq33 Lq33 sq33 ⟨hm, hspq33⟩
      refine J.sp hspq33 ?_
      refine J.seq ?_
      refine J.seq ?_
      refine J.region ?_
      first | refine o_q (q_mvv (v := .int _ _) rfl) ?_ | refine o_q (q_mv) ?_
      refine o_q (q_fa rfl) ?_
      refine o_q (q_ld rfl inferInstance rfl) ?_
      refine o_q (q_lenE (k := x0.L.length) rfl (Sls.len f24)) ?_
      refine o_q (q_lss rfl rfl) ?_
      refine JL.nil ?_
      by_cases c37 : (i31 : Int) < (x0.L.length : Int)
      ·
        obtain ⟨x38, o35, hl39, hx40, hm, hk36⟩ := forL_cons c37 hm
        unfold M.torsionref06_Valid_b1 at hm
        refine J.condT rfl (decide_eq_true c37) ?_
        have k41 : -9223372036854775808 ≤ (i31 : Int) + 1 ∧ (i31 : Int) + 1 ≤ 9223372036854775807 := by omega
        refine J.skip ?_
        refine J.seq ?_
        refine J.block ?_
        refine J.seq ?_
        obtain ⟨b42, o43, rfl⟩ := Sls.op f24 hl39
        obtain ⟨us44, hc45, hR46⟩ := Sls.at f24 hx40
        obtain ⟨p47, n48, c49, rfl, f50⟩ := hR46
        obtain ⟨y56, e55, hm⟩ := bnd_some hm
        refine J.drawB [b25] [] ?_
        refine JD.calc 0 (by kernel_rfl) rfl trivial ss_subB (q_fa rfl) ?_
        refine JD.loadB 1 (by kernel_rfl) rfl trivial (q_ld rfl inferInstance rfl) ?_
        first | refine JD.calc 2 (by kernel_rfl) rfl trivial ss_subB (q_mvv (v := .int _ _) rfl) ?_ | refine JD.calc 2 (by kernel_rfl) rfl trivial ss_subB (q_mv) ?_
        refine JD.calc 3 (by kernel_rfl) rfl trivial ss_subB (q_ian rfl rfl rfl (by first | exact hl39 | (rw [Sls.len f24]; exact hl39))) ?_
        refine JD.loadB 4 (by kernel_rfl) rfl trivial (q_ldf rfl hc45) ?_
        refine JD.calc 5 (by kernel_rfl) rfl trivial ss_subB (q_fa rfl) ?_
        refine JD.loadB 6 (by kernel_rfl) rfl trivial (q_ld rfl inferInstance rfl) ?_
        refine JD.one 7 (by kernel_rfl) ?_
        refine JX.effB rfl rfl trivial ?_
        refine o_call (torsionref06_ValidRow_fn (Sls.mono f50) e55) (fun v51 h52 s53 r54 => ?_)
        obtain rfl := (show _ = _ from r54)
        refine JL.nil ⟨rfl, inferInstance, inferInstance, ?_⟩
        first | refine JD.calc 8 (by kernel_rfl) rfl trivial ss_subB (q_asv (v := .bool _) rfl) ?_ | refine JD.calc 8 (by kernel_rfl) rfl trivial ss_subB (q_as) ?_
        refine JD.done (by kernel_rfl) ?_ _
        --
        refine J.seq ?_
        refine J.region ?_
        first | refine o_q (q_mvv (v := .bool _) rfl) ?_ | refine o_q (q_mv) ?_
        refine o_q (q_not rfl) ?_
        refine JL.nil ?_
        by_cases c57 : y56 = true
        ·
          replace hm := ite_T c57 hm
          refine J.condF rfl (congrArg Bool.not (show y56 = true from c57)) ?_
          refine J.skip ?_
          refine J.region ?_
          first | refine o_q (q_mvv (v := .int _ _) rfl) ?_ | refine o_q (q_mv) ?_
          refine o_q (q_add rfl rfl (wi64 k41)) ?_
          first | refine o_q (q_asv (v := .int _ _) rfl) ?_ | refine o_q (q_as) ?_
          refine JL.nil ?_
          replace hm := inl_onward hm hk36
          exact ⟨(i31 + 1), rfl, ⟨rfl, trivial⟩, ⟨rfl, trivial⟩, ⟨hm, inferInstance⟩, (muL hl39), inferInstance⟩
        ·
          replace hm := ite_F c57 hm
          refine J.condT rfl (congrArg Bool.not (show y56 = false from (eq_false_of_ne_true c57))) ?_
          refine J.seq ?_
          refine J.region ?_
          first | refine o_q (q_asv (v := .bool _) rfl) ?_ | refine o_q (q_as) ?_
          refine JL.nil ?_
          replace hm := inr_onward hm hk36
          refine J.ret ?_
          obtain rfl := Option.some.inj hm
          exact ret_ok (fn := Try.f11) rfl (.tmp rfl .nil) rfl
      ·
        replace hm := forL_nil c37 hm
        unfold M.torsionref06_Valid_k1 at hm
        refine J.condF rfl (decide_eq_false c37) ?_
        refine J.exit ?_
        refine J.seq ?_
        refine J.region ?_
        first | refine o_q (q_asv (v := .bool _) rfl) ?_ | refine o_q (q_as) ?_
        refine JL.nil ?_
        refine J.ret ?_
        obtain rfl := Option.some.inj hm
        exact ret_ok (fn := Try.f11) rfl (.tmp rfl .nil) rfl
set_option maxHeartbeats 4000000 in
theorem torsionref06_SameRow_fn {h : Heap} {x0 : List TTerm} {x1 : List TTerm} {v0 : Value} {v1 : Value} (r0 : Sls TTermR 3 h v0 x0) (r1 : Sls TTermR 3 h v1 x1) {r : Bool} (hm : M.torsionref06_SameRow x0 x1 = some r) :
    Fn Try.prog 17 #[v0, v1] h fun v h' => v = .bool r := by
  obtain ⟨p21, n22, c23, rfl, f24⟩ := Sls.op3 r0
  obtain ⟨p25, n26, c27, rfl, f28⟩ := Sls.op3 r1
  refine Fn.intro (args := [_, _]) Try.func17 rfl rfl (Nat.le_of_ble_eq_true rfl) fun w => ?_
  unfold M.torsionref06_SameRow at hm
  refine J.seq ?_
  refine J.region ?_
  first | refine o_q (q_asv (v := .bool _) rfl) ?_ | refine o_q (q_as) ?_
  refine JL.nil ?_
  refine J.seq ?_
  refine J.seq ?_
  refine J.region ?_
  first | refine o_q (q_mvv (v := .slice _ _ _) rfl) ?_ | refine o_q (q_mv) ?_
  refine o_q (q_lenE (k := x0.length) rfl (Sls.len f24)) ?_
  first | refine o_q (q_mvv (v := .slice _ _ _) rfl) ?_ | refine o_q (q_mv) ?_
  refine o_q (q_lenE (k := x1.length) rfl (Sls.len f28)) ?_
  refine o_q (q_neq rfl rfl) ?_
  refine JL.nil ?_
  by_cases c29 : (x0.length : Int) = (x1.length : Int)
  ·
    replace hm := ite_T c29 hm
    refine J.condF rfl (decide_eq_false (fun z => z c29)) ?_
    refine J.skip ?_
    refine J.seq ?_
    refine J.seq ?_
    refine J.region ?_
    first | refine o_q (q_asv (v := .int _ _) rfl) ?_ | refine o_q (q_as) ?_
    refine JL.nil ?_
    refine J.block ?_
    obtain ⟨hl32, hm⟩ := rngL_some hm
    refine J.loopK (α := Nat) (fun i31 h' L' => forL (M.torsionref06_SameRow_b1 x1) M.torsionref06_SameRow_k1 (List.drop i31 x0) i31 () = some r ∧ Sp ([]) L') [(0, .slice _ _ _), (1, .slice _ _ _)] ⟨rfl, rfl, trivial⟩ (fun i31 => [(5, .int .i64 (i31 : Int))]) (fun i31 => x0.length - i31) 0 ⟨hm, inferInstance⟩ ⟨rfl, trivial⟩ ?_
    rintro i31 σq33 hq33 Lq33 sq33 ⟨hm, hspq33⟩
    refine J.sp hspq33 ?_
    refine J.seq ?_
    refine J.seq ?_
    refine J.region ?_
    first | refine o_q (q_mvv (v := .int _ _) rfl) ?_ | refine o_q (q_mv) ?_
    first | refine o_q (q_mvv (v := .slice _ _ _) rfl) ?_ | refine o_q (q_mv) ?_
    refine o_q (q_lenE (k := x0.length) rfl (Sls.len f24)) ?_
    refine o_q (q_lss rfl rfl) ?_
    refine JL.nil ?_
    by_cases c37 : (i31 : Int) < (x0.length : Int)
    ·
      obtain ⟨x38, o35, hl39, hx40, hm, hk36⟩ := forL_cons c37 hm
      unfold M.torsionref06_SameRow_b1 at hm
      refine J.condT rfl (decide_eq_true c37) ?_
      have k41 : -9223372036854775808 ≤ (i31 : Int) + 1 ∧ (i31 : Int) + 1 ≤ 9223372036854775807 := by omega
      refine J.skip ?_
      refine J.seq ?_
      refine J.block ?_
      refine J.seq ?_
      obtain ⟨b42, o43, rfl⟩ := Sls.op f24 hl39
      obtain ⟨us44, hc45, hR46⟩ := Sls.at f24 hx40
      obtain ⟨g47, p48, n49, c50, rfl, f51⟩ := hR46
      obtain ⟨i53, x52, hi54, hl55, hx56, hm⟩ := nth_some hm
      obtain ⟨b57, o58, rfl⟩ := Sls.op f28 hl55
      obtain ⟨us59, hc60, hR61⟩ := Sls.at f28 hx56
      obtain ⟨g62, p63, n64, c65, rfl, f66⟩ := hR61
      by_cases c67 : x38.Col = x52.Col
      ·
        replace hm := ite_T c67 hm
        obtain ⟨y79, e78, hm⟩ := bnd_some hm
        refine J.drawB [] [] ?_
        first | refine JD.calc 0 (by kernel_rfl) rfl trivial ss_subB (q_mvv (v := .slice _ _ _) rfl) ?_ | refine JD.calc 0 (by kernel_rfl) rfl trivial ss_subB (q_mv) ?_
        first | refine JD.calc 1 (by kernel_rfl) rfl trivial ss_subB (q_mvv (v := .int _ _) rfl) ?_ | refine JD.calc 1 (by kernel_rfl) rfl trivial ss_subB (q_mv) ?_
        refine JD.calc 2 (by kernel_rfl) rfl trivial ss_subB (q_ian rfl rfl rfl (by first | exact hl39 | (rw [Sls.len f24]; exact hl39))) ?_
        refine JD.calc 3 (by kernel_rfl) rfl trivial ss_subB (q_fa rfl) ?_
        refine JD.loadB 4 (by kernel_rfl) rfl trivial (q_ldf rfl (hc45.cell (j := 0) rfl)) ?_
        first | refine JD.calc 5 (by kernel_rfl) rfl trivial ss_subB (q_mvv (v := .slice _ _ _) rfl) ?_ | refine JD.calc 5 (by kernel_rfl) rfl trivial ss_subB (q_mv) ?_
        first | refine JD.calc 6 (by kernel_rfl) rfl trivial ss_subB (q_mvv (v := .int _ _) rfl) ?_ | refine JD.calc 6 (by kernel_rfl) rfl trivial ss_subB (q_mv) ?_
        refine JD.calc 7 (by kernel_rfl) rfl trivial ss_subB (q_ian rfl rfl hi54 (by first | exact hl55 | (rw [Sls.len f28]; exact hl55))) ?_
        refine JD.calc 8 (by kernel_rfl) rfl trivial ss_subB (q_fa rfl) ?_
        refine JD.loadB 9 (by kernel_rfl) rfl trivial (q_ldf rfl (hc60.cell (j := 0) rfl)) ?_
        refine JD.calc 10 (by kernel_rfl) rfl trivial ss_subB (q_neq rfl rfl) ?_
        first | refine JD.calc 11 (by kernel_rfl) rfl trivial ss_subB (q_mvv (v := .bool _) rfl) ?_ | refine JD.calc 11 (by kernel_rfl) rfl trivial ss_subB (q_mv) ?_
        first | refine JD.calc 12 (by kernel_rfl) rfl ⟨_, rfl, (congrArg Value.bool (decide_eq_false (fun z => z c67)))⟩ ss_subB (q_mvv (v := .slice _ _ _) rfl) ?_ | refine JD.calc 12 (by kernel_rfl) rfl ⟨_, rfl, (congrArg Value.bool (decide_eq_false (fun z => z c67)))⟩ ss_subB (q_mv) ?_
        first | refine JD.calc 13 (by kernel_rfl) rfl ⟨_, rfl, (congrArg Value.bool (decide_eq_false (fun z => z c67)))⟩ ss_subB (q_mvv (v := .int _ _) rfl) ?_ | refine JD.calc 13 (by kernel_rfl) rfl ⟨_, rfl, (congrArg Value.bool (decide_eq_false (fun z => z c67)))⟩ ss_subB (q_mv) ?_
        refine JD.calc 14 (by kernel_rfl) rfl ⟨_, rfl, (congrArg Value.bool (decide_eq_false (fun z => z c67)))⟩ ss_subB (q_ian rfl rfl rfl (by first | exact hl39 | (rw [Sls.len f24]; exact hl39))) ?_
        refine JD.calc 15 (by kernel_rfl) rfl ⟨_, rfl, (congrArg Value.bool (decide_eq_false (fun z => z c67)))⟩ ss_subB (q_fa rfl) ?_
        refine JD.loadB 16 (by kernel_rfl) rfl ⟨_, rfl, (congrArg Value.bool (decide_eq_false (fun z => z c67)))⟩ (q_ldfs (vs := [_, _]) rfl hc45 rfl) ?_
        first | refine JD.calc 17 (by kernel_rfl) rfl ⟨_, rfl, (congrArg Value.bool (decide_eq_false (fun z => z c67)))⟩ ss_subB (q_mvv (v := .slice _ _ _) rfl) ?_ | refine JD.calc 17 (by kernel_rfl) rfl ⟨_, rfl, (congrArg Value.bool (decide_eq_false (fun z => z c67)))⟩ ss_subB (q_mv) ?_
        first | refine JD.calc 18 (by kernel_rfl) rfl ⟨_, rfl, (congrArg Value.bool (decide_eq_false (fun z => z c67)))⟩ ss_subB (q_mvv (v := .int _ _) rfl) ?_ | refine JD.calc 18 (by kernel_rfl) rfl ⟨_, rfl, (congrArg Value.bool (decide_eq_false (fun z => z c67)))⟩ ss_subB (q_mv) ?_
        refine JD.calc 19 (by kernel_rfl) rfl ⟨_, rfl, (congrArg Value.bool (decide_eq_false (fun z => z c67)))⟩ ss_subB (q_ian rfl rfl hi54 (by first | exact hl55 | (rw [Sls.len f28]; exact hl55))) ?_
        refine JD.calc 20 (by kernel_rfl) rfl ⟨_, rfl, (congrArg Value.bool (decide_eq_false (fun z => z c67)))⟩ ss_subB (q_fa rfl) ?_
        refine JD.loadB 21 (by kernel_rfl) rfl ⟨_, rfl, (congrArg Value.bool (decide_eq_false (fun z => z c67)))⟩ (q_ldfs (vs := [_, _]) rfl hc60 rfl) ?_
        refine JD.one 22 (by kernel_rfl) ?_
        refine JX.effB rfl rfl ⟨_, rfl, (congrArg Value.bool (decide_eq_false (fun z => z c67)))⟩ ?_
        refine o_call (rsame_fn (IntR.at (Mo.up f51)) (IntR.at (Mo.up f66)) e78) (fun v74 h75 s76 r77 => ?_)
        obtain rfl := (show _ = _ from r77)
        refine JL.nil ⟨rfl, inferInstance, inferInstance, ?_⟩
        refine JD.calc 23 (by kernel_rfl) rfl ⟨_, rfl, (congrArg Value.bool (decide_eq_false (fun z => z c67)))⟩ ss_subB (q_not rfl) ?_
        first | refine JD.calc 24 (by kernel_rfl) rfl trivial ss_subB (q_pickFv (v := .bool _) rfl (decide_eq_false (fun z => z c67)) rfl) ?_ | refine JD.calc 24 (by kernel_rfl) rfl trivial ss_subB (q_pickF rfl (decide_eq_false (fun z => z c67))) ?_
        refine JD.done (by kernel_rfl) ?_ _
        --
        by_cases c80 : y79 = true
        ·
          replace hm := ite_T c80 hm
          refine J.condF rfl (congrArg Bool.not (show y79 = true from c80)) ?_
          refine J.skip ?_
          refine J.region ?_
          first | refine o_q (q_mvv (v := .int _ _) rfl) ?_ | refine o_q (q_mv) ?_
          refine o_q (q_add rfl rfl (wi64 k41)) ?_
          first | refine o_q (q_asv (v := .int _ _) rfl) ?_ | refine o_q (q_as) ?_
          refine JL.nil ?_
          replace hm := inl_onward hm hk36
          exact ⟨(i31 + 1), rfl, ⟨rfl, rfl, trivial⟩, ⟨rfl, trivial⟩, ⟨hm, inferInstance⟩, (muL hl39), inferInstance⟩
        ·
          replace hm := ite_F c80 hm
          refine J.condT rfl (congrArg Bool.not (show y79 = false from (eq_false_of_ne_true c80))) ?_
          refine J.seq ?_
          refine J.region ?_
          first | refine o_q (q_asv (v := .bool _) rfl) ?_ | refine o_q (q_as) ?_
          refine JL.nil ?_
          replace hm := inr_onward hm hk36
          refine J.ret ?_
          obtain rfl := Option.some.inj hm
          exact ret_ok (fn := Try.f17) rfl (.tmp rfl .nil) rfl
      ·
        replace hm := ite_F c67 hm
        refine J.drawB [] [] ?_
        first | refine JD.calc 0 (by kernel_rfl) rfl trivial ss_subB (q_mvv (v := .slice _ _ _) rfl) ?_ | refine JD.calc 0 (by kernel_rfl) rfl trivial ss_subB (q_mv) ?_
        first | refine JD.calc 1 (by kernel_rfl) rfl trivial ss_subB (q_mvv (v := .int _ _) rfl) ?_ | refine JD.calc 1 (by kernel_rfl) rfl trivial ss_subB (q_mv) ?_
        refine JD.calc 2 (by kernel_rfl) rfl trivial ss_subB (q_ian rfl rfl rfl (by first | exact hl39 | (rw [Sls.len f24]; exact hl39))) ?_
        refine JD.calc 3 (by kernel_rfl) rfl trivial ss_subB (q_fa rfl) ?_
        refine JD.loadB 4 (by kernel_rfl) rfl trivial (q_ldf rfl (hc45.cell (j := 0) rfl)) ?_
        first | refine JD.calc 5 (by kernel_rfl) rfl trivial ss_subB (q_mvv (v := .slice _ _ _) rfl) ?_ | refine JD.calc 5 (by kernel_rfl) rfl trivial ss_subB (q_mv) ?_
        first | refine JD.calc 6 (by kernel_rfl) rfl trivial ss_subB (q_mvv (v := .int _ _) rfl) ?_ | refine JD.calc 6 (by kernel_rfl) rfl trivial ss_subB (q_mv) ?_
        refine JD.calc 7 (by kernel_rfl) rfl trivial ss_subB (q_ian rfl rfl hi54 (by first | exact hl55 | (rw [Sls.len f28]; exact hl55))) ?_
        refine JD.calc 8 (by kernel_rfl) rfl trivial ss_subB (q_fa rfl) ?_
        refine JD.loadB 9 (by kernel_rfl) rfl trivial (q_ldf rfl (hc60.cell (j := 0) rfl)) ?_
        refine JD.calc 10 (by kernel_rfl) rfl trivial ss_subB (q_neq rfl rfl) ?_
        first | refine JD.calc 11 (by kernel_rfl) rfl trivial ss_subB (q_mvv (v := .bool _) rfl) ?_ | refine JD.calc 11 (by kernel_rfl) rfl trivial ss_subB (q_mv) ?_
        refine JD.pass 12 (by kernel_rfl) rfl rfl (congrArg Value.bool (decide_eq_true c67)) ss_subB ?_
        refine JD.pass 13 (by kernel_rfl) rfl rfl (congrArg Value.bool (decide_eq_true c67)) ss_subB ?_
        refine JD.pass 14 (by kernel_rfl) rfl rfl (congrArg Value.bool (decide_eq_true c67)) ss_subB ?_
        refine JD.pass 15 (by kernel_rfl) rfl rfl (congrArg Value.bool (decide_eq_true c67)) ss_subB ?_
        refine JD.pass 16 (by kernel_rfl) rfl rfl (congrArg Value.bool (decide_eq_true c67)) ss_subB ?_
        refine JD.pass 17 (by kernel_rfl) rfl rfl (congrArg Value.bool (decide_eq_true c67)) ss_subB ?_
        refine JD.pass 18 (by kernel_rfl) rfl rfl (congrArg Value.bool (decide_eq_true c67)) ss_subB ?_
        refine JD.pass 19 (by kernel_rfl) rfl rfl (congrArg Value.bool (decide_eq_true c67)) ss_subB ?_
        refine JD.pass 20 (by kernel_rfl) rfl rfl (congrArg Value.bool (decide_eq_true c67)) ss_subB ?_
        refine JD.pass 21 (by kernel_rfl) rfl rfl (congrArg Value.bool (decide_eq_true c67)) ss_subB ?_
        refine JD.pass 22 (by kernel_rfl) rfl rfl (congrArg Value.bool (decide_eq_true c67)) ss_subB ?_
        refine JD.pass 23 (by kernel_rfl) rfl rfl (congrArg Value.bool (decide_eq_true c67)) ss_subB ?_
        first | refine JD.calc 24 (by kernel_rfl) rfl trivial ss_subB (q_pickTv (v := .bool _) rfl (decide_eq_true c67) rfl) ?_ | refine JD.calc 24 (by kernel_rfl) rfl trivial ss_subB (q_pickT rfl (decide_eq_true c67)) ?_
        refine JD.done (by kernel_rfl) ?_ _
        --
        refine J.condT rfl rfl ?_
        refine J.seq ?_
        refine J.region ?_
        first | refine o_q (q_asv (v := .bool _) rfl) ?_ | refine o_q (q_as) ?_
        refine JL.nil ?_
        replace hm := inr_onward hm hk36
        refine J.ret ?_
        obtain rfl := Option.some.inj hm
        exact ret_ok (fn := Try.f17) rfl (.tmp rfl .nil) rfl
    ·
      replace hm := forL_nil c37 hm
      unfold M.torsionref06_SameRow_k1 at hm
      refine J.condF rfl (decide_eq_false c37) ?_
      refine J.exit ?_
      refine J.seq ?_
      refine J.region ?_
      first | refine o_q (q_asv (v := .bool _) rfl) ?_ | refine o_q (q_as) ?_
      refine JL.nil ?_
      refine J.ret ?_
      obtain rfl := Option.some.inj hm
      exact ret_ok (fn := Try.f17) rfl (.tmp rfl .nil) rfl
  ·
    replace hm := ite_F c29 hm
    refine J.condT rfl (decide_eq_true c29) ?_
    refine J.seq ?_
    refine J.region ?_
    first | refine o_q (q_asv (v := .bool _) rfl) ?_ | refine o_q (q_as) ?_
    refine JL.nil ?_
    refine J.ret ?_
    obtain rfl := Option.some.inj hm
    exact ret_ok (fn := Try.f17) rfl (.tmp rfl .nil) rfl
set_option maxHeartbeats 4000000 in
theorem torsionref06_Equal_fn {h : Heap} {x0 : TSparse} {x1 : TSparse} {v0 : Value} {v1 : Value} (r0 : AggV TSparseR h v0 x0) (r1 : AggV TSparseR h v1 x1) {r : Bool} (hm : M.torsionref06_Equal x0 x1 = some r) :
    Fn Try.prog 27 #[v0, v1] h fun v h' => v = .bool r := by
  obtain ⟨_, rfl, p21, n22, c23, rfl, f24⟩ := r0
  obtain ⟨_, rfl, p25, n26, c27, rfl, f28⟩ := r1
  refine Fn.intro (args := [_, _]) Try.func27 rfl rfl (Nat.le_of_ble_eq_true rfl) fun w => ?_
  unfold M.torsionref06_Equal at hm
  refine J.seq ?_
  refine J.region ?_
  first | refine o_bx (v := .agg ⟨[.int _ _, .int _ _, .slice _ _ _]⟩) rfl rfl (fun b29 => ?_) | refine o_bx rfl rfl (fun b29 => ?_)
  first | refine o_bx (v := .agg ⟨[.int _ _, .int _ _, .slice _ _ _]⟩) rfl rfl (fun b30 => ?_) | refine o_bx rfl rfl (fun b30 => ?_)
  first | refine o_q (q_asv (v := .bool _) rfl) ?_ | refine o_q (q_as) ?_
  refine JL.nil ?_
  refine J.seq ?_
  refine J.seq ?_
  refine J.joinK (α := Bool) (fun v32 h' L' => (M.torsionref06_Equal_j2 x0 x1) v32 = some r ∧ Sp ([(b29, row 24 [.int .i64 x0.Rows, .int .i64 x0.Cols, .slice p21 n22 c23]), (b30, row 24 [.int .i64 x1.Rows, .int .i64 x1.Cols, .slice p25 n26 c27])]) L') [(2, .pointer _), (3, .pointer _)] ⟨rfl, rfl, trivial⟩ (fun v32 => [(26, .bool v32)]) ?_ ?_
  ·
    by_cases c77 : x0.Rows = x1.Rows
    ·
      replace hm := ite_T c77 hm
      by_cases c78 : x0.Cols = x1.Cols
      ·
        replace hm := ite_T c78 hm
        refine J.region ?_
        refine o_q (q_fa rfl) ?_
        refine o_q (q_ld rfl inferInstance rfl) ?_
        refine o_q (q_fa rfl) ?_
        refine o_q (q_ld rfl inferInstance rfl) ?_
        refine o_q (q_neq rfl rfl) ?_
        first | refine o_q (q_mvv (v := .bool _) rfl) ?_ | refine o_q (q_mv) ?_
        refine JL.guardT rfl rfl (decide_eq_false (fun z => z c77)) ?_
        refine o_q (q_fa rfl) ?_
        refine JL.guardT rfl rfl (decide_eq_false (fun z => z c77)) ?_
        refine o_q (q_ld rfl inferInstance rfl) ?_
        refine JL.guardT rfl rfl (decide_eq_false (fun z => z c77)) ?_
        refine o_q (q_fa rfl) ?_
        refine JL.guardT rfl rfl (decide_eq_false (fun z => z c77)) ?_
        refine o_q (q_ld rfl inferInstance rfl) ?_
        refine JL.guardT rfl rfl (decide_eq_false (fun z => z c77)) ?_
        refine o_q (q_neq rfl rfl) ?_
        first | refine o_q (q_pickFv (v := .bool _) rfl (decide_eq_false (fun z => z c77)) rfl) ?_ | refine o_q (q_pickF rfl (decide_eq_false (fun z => z c77))) ?_
        first | refine o_q (q_mvv (v := .bool _) rfl) ?_ | refine o_q (q_mv) ?_
        refine JL.guardT rfl rfl (decide_eq_false (fun z => z c78)) ?_
        refine o_q (q_fa rfl) ?_
        refine JL.guardT rfl rfl (decide_eq_false (fun z => z c78)) ?_
        refine o_q (q_ld rfl inferInstance rfl) ?_
        refine JL.guardT rfl rfl (decide_eq_false (fun z => z c78)) ?_
        refine o_q (q_lenE (k := x0.L.length) rfl (Sls.len f24)) ?_
        refine JL.guardT rfl rfl (decide_eq_false (fun z => z c78)) ?_
        refine o_q (q_fa rfl) ?_
        refine JL.guardT rfl rfl (decide_eq_false (fun z => z c78)) ?_
        refine o_q (q_ld rfl inferInstance rfl) ?_
        refine JL.guardT rfl rfl (decide_eq_false (fun z => z c78)) ?_
        refine o_q (q_lenE (k := x1.L.length) rfl (Sls.len f28)) ?_
        refine JL.guardT rfl rfl (decide_eq_false (fun z => z c78)) ?_
        refine o_q (q_neq rfl rfl) ?_
        first | refine o_q (q_pickFv (v := .bool _) rfl (decide_eq_false (fun z => z c78)) rfl) ?_ | refine o_q (q_pickF rfl (decide_eq_false (fun z => z c78))) ?_
        refine JL.nil ?_
        exact ⟨(decide ((x0.L.length : Int) ≠ (x1.L.length : Int))), rfl, ⟨rfl, rfl, trivial⟩, ⟨rfl, trivial⟩, ⟨hm, inferInstance⟩, inferInstance⟩
      ·
        replace hm := ite_F c78 hm
        refine J.region ?_
        refine o_q (q_fa rfl) ?_
        refine o_q (q_ld rfl inferInstance rfl) ?_
        refine o_q (q_fa rfl) ?_
        refine o_q (q_ld rfl inferInstance rfl) ?_
        refine o_q (q_neq rfl rfl) ?_
        first | refine o_q (q_mvv (v := .bool _) rfl) ?_ | refine o_q (q_mv) ?_
        refine JL.guardT rfl rfl (decide_eq_false (fun z => z c77)) ?_
        refine o_q (q_fa rfl) ?_
        refine JL.guardT rfl rfl (decide_eq_false (fun z => z c77)) ?_
        refine o_q (q_ld rfl inferInstance rfl) ?_
        refine JL.guardT rfl rfl (decide_eq_false (fun z => z c77)) ?_
        refine o_q (q_fa rfl) ?_
        refine JL.guardT rfl rfl (decide_eq_false (fun z => z c77)) ?_
        refine o_q (q_ld rfl inferInstance rfl) ?_
        refine JL.guardT rfl rfl (decide_eq_false (fun z => z c77)) ?_
        refine o_q (q_neq rfl rfl) ?_
        first | refine o_q (q_pickFv (v := .bool _) rfl (decide_eq_false (fun z => z c77)) rfl) ?_ | refine o_q (q_pickF rfl (decide_eq_false (fun z => z c77))) ?_
        first | refine o_q (q_mvv (v := .bool _) rfl) ?_ | refine o_q (q_mv) ?_
        refine JL.guardF rfl rfl (decide_eq_true c78) rfl ?_
        refine JL.guardF rfl rfl (decide_eq_true c78) rfl ?_
        refine JL.guardF rfl rfl (decide_eq_true c78) rfl ?_
        refine JL.guardF rfl rfl (decide_eq_true c78) rfl ?_
        refine JL.guardF rfl rfl (decide_eq_true c78) rfl ?_
        refine JL.guardF rfl rfl (decide_eq_true c78) rfl ?_
        refine JL.guardF rfl rfl (decide_eq_true c78) rfl ?_
        first | refine o_q (q_pickTv (v := .bool _) rfl (decide_eq_true c78) rfl) ?_ | refine o_q (q_pickT rfl (decide_eq_true c78)) ?_
        refine JL.nil ?_
        exact ⟨true, rfl, ⟨rfl, rfl, trivial⟩, ⟨rfl, trivial⟩, ⟨hm, inferInstance⟩, inferInstance⟩
    ·
      replace hm := ite_F c77 hm
      refine J.region ?_
      refine o_q (q_fa rfl) ?_
      refine o_q (q_ld rfl inferInstance rfl) ?_
      refine o_q (q_fa rfl) ?_
      refine o_q (q_ld rfl inferInstance rfl) ?_
      refine o_q (q_neq rfl rfl) ?_
      first | refine o_q (q_mvv (v := .bool _) rfl) ?_ | refine o_q (q_mv) ?_
      refine JL.guardF rfl rfl (decide_eq_true c77) rfl ?_
      refine JL.guardF rfl rfl (decide_eq_true c77) rfl ?_
      refine JL.guardF rfl rfl (decide_eq_true c77) rfl ?_
      refine JL.guardF rfl rfl (decide_eq_true c77) rfl ?_
      refine JL.guardF rfl rfl (decide_eq_true c77) rfl ?_
      first | refine o_q (q_pickTv (v := .bool _) rfl (decide_eq_true c77) rfl) ?_ | refine o_q (q_pickT rfl (decide_eq_true c77)) ?_
      first | refine o_q (q_mvv (v := .bool _) rfl) ?_ | refine o_q (q_mv) ?_
      refine JL.guardF rfl rfl rfl rfl ?_
      refine JL.guardF rfl rfl rfl rfl ?_
      refine JL.guardF rfl rfl rfl rfl ?_
      refine JL.guardF rfl rfl rfl rfl ?_
      refine JL.guardF rfl rfl rfl rfl ?_
      refine JL.guardF rfl rfl rfl rfl ?_
      refine JL.guardF rfl rfl rfl rfl ?_
      first | refine o_q (q_pickTv (v := .bool _) rfl rfl rfl) ?_ | refine o_q (q_pickT rfl rfl) ?_
      refine JL.nil ?_
      exact ⟨true, rfl, ⟨rfl, rfl, trivial⟩, ⟨rfl, trivial⟩, ⟨hm, inferInstance⟩, inferInstance⟩
  ·
    rintro v32 σq33 hq33 Lq33 sq33 ⟨hm, hspq33⟩
    refine J.sp hspq33 ?_
    unfold M.torsionref06_Equal_j2 at hm
    by_cases c34 : v32 = true
    ·
      replace hm := ite_T c34 hm
      refine J.condT rfl c34 ?_
      refine J.seq ?_
      refine J.region ?_
      first | refine o_q (q_asv (v := .bool _) rfl) ?_ | refine o_q (q_as) ?_
      refine JL.nil ?_
      refine J.ret ?_
      obtain rfl := Option.some.inj hm
      exact ret_ok (fn := Try.f27) rfl (.tmp rfl .nil) rfl
    ·
      replace hm := ite_F c34 hm
      refine J.condF rfl (eq_false_of_ne_true c34) ?_
      refine J.skip ?_
      refine J.seq ?_
      refine J.seq ?_
      refine J.region ?_
      first | refine o_q (q_asv (v := .int _ _) rfl) ?_ | refine o_q (q_as) ?_
      refine JL.nil ?_
      refine J.block ?_
      obtain ⟨hl37, hm⟩ := rngL_some hm
      refine J.loopK (α := Nat) (fun i36 h' L' => forL (M.torsionref06_Equal_b1 x1) M.torsionref06_Equal_k1 (List.drop i36 x0.L) i36 () = some r ∧ Sp ([(b29, row 24 [.int .i64 x0.Rows, .int .i64 x0.Cols, .slice p21 n22 c23]), (b30, row 24 [.int .i64 x1.Rows, .int .i64 x1.Cols, .slice p25 n26 c27])]) L') [(2, .pointer _), (3, .pointer _)] ⟨rfl, rfl, trivial⟩ (fun i36 => [(5, .int .i64 (i36 : Int))]) (fun i36 => x0.L.length - i36) 0 ⟨hm, inferInstance⟩ ⟨rfl, trivial⟩ ?_
      rintro i36 σq38 hq38 Lq38 sq38 ⟨hm, hspq38⟩
      refine J.sp hspq38 ?_
      refine J.seq ?_
      refine J.seq ?_
      refine J.region ?_
      first | refine o_q (q_mvv (v := .int _ _) rfl) ?_ | refine o_q (q_mv) ?_
      refine o_q (q_fa rfl) ?_
      refine o_q (q_ld rfl inferInstance rfl) ?_
      refine o_q (q_lenE (k := x0.L.length) rfl (Sls.len f24)) ?_
      refine o_q (q_lss rfl rfl) ?_
      refine JL.nil ?_
      by_cases c42 : (i36 : Int) < (x0.L.length : Int)
      ·
        obtain ⟨x43, o40, hl44, hx45, hm, hk41⟩ := forL_cons c42 hm
        unfold M.torsionref06_Equal_b1 at hm
        refine J.condT rfl (decide_eq_true c42) ?_
        have k46 : -9223372036854775808 ≤ (i36 : Int) + 1 ∧ (i36 : Int) + 1 ≤ 9223372036854775807 := by omega
        refine J.skip ?_
        refine J.seq ?_
        refine J.block ?_
        refine J.seq ?_
        obtain ⟨b47, o48, rfl⟩ := Sls.op f24 hl44
        obtain ⟨us49, hc50, hR51⟩ := Sls.at f24 hx45
        obtain ⟨p52, n53, c54, rfl, f55⟩ := hR51
        obtain ⟨i57, x56, hi58, hl59, hx60, hm⟩ := nth_some hm
        obtain ⟨b61, o62, rfl⟩ := Sls.op f28 hl59
        obtain ⟨us63, hc64, hR65⟩ := Sls.at f28 hx60
        obtain ⟨p66, n67, c68, rfl, f69⟩ := hR65
        obtain ⟨y75, e74, hm⟩ := bnd_some hm
        refine J.drawB [b29, b30] [] ?_
        refine JD.calc 0 (by kernel_rfl) rfl trivial ss_subB (q_fa rfl) ?_
        refine JD.loadB 1 (by kernel_rfl) rfl trivial (q_ld rfl inferInstance rfl) ?_
        first | refine JD.calc 2 (by kernel_rfl) rfl trivial ss_subB (q_mvv (v := .int _ _) rfl) ?_ | refine JD.calc 2 (by kernel_rfl) rfl trivial ss_subB (q_mv) ?_
        refine JD.calc 3 (by kernel_rfl) rfl trivial ss_subB (q_ian rfl rfl rfl (by first | exact hl44 | (rw [Sls.len f24]; exact hl44))) ?_
        refine JD.loadB 4 (by kernel_rfl) rfl trivial (q_ldf rfl hc50) ?_
        refine JD.calc 5 (by kernel_rfl) rfl trivial ss_subB (q_fa rfl) ?_
        refine JD.loadB 6 (by kernel_rfl) rfl trivial (q_ld rfl inferInstance rfl) ?_
        first | refine JD.calc 7 (by kernel_rfl) rfl trivial ss_subB (q_mvv (v := .int _ _) rfl) ?_ | refine JD.calc 7 (by kernel_rfl) rfl trivial ss_subB (q_mv) ?_
        refine JD.calc 8 (by kernel_rfl) rfl trivial ss_subB (q_ian rfl rfl hi58 (by first | exact hl59 | (rw [Sls.len f28]; exact hl59))) ?_
        refine JD.loadB 9 (by kernel_rfl) rfl trivial (q_ldf rfl hc64) ?_
        refine JD.one 10 (by kernel_rfl) ?_
        refine JX.effB rfl rfl trivial ?_
        refine o_call (torsionref06_SameRow_fn (Sls.mono f55) (Sls.mono f69) e74) (fun v70 h71 s72 r73 => ?_)
        obtain rfl := (show _ = _ from r73)
        refine JL.nil ⟨rfl, inferInstance, inferInstance, ?_⟩
        refine JD.calc 11 (by kernel_rfl) rfl trivial ss_subB (q_not rfl) ?_
        refine JD.done (by kernel_rfl) ?_ _
        --
        by_cases c76 : y75 = true
        ·
          replace hm := ite_T c76 hm
          refine J.condF rfl (congrArg Bool.not (show y75 = true from c76)) ?_
          refine J.skip ?_
          refine J.region ?_
          first | refine o_q (q_mvv (v := .int _ _) rfl) ?_ | refine o_q (q_mv) ?_
          refine o_q (q_add rfl rfl (wi64 k46)) ?_
          first | refine o_q (q_asv (v := .int _ _) rfl) ?_ | refine o_q (q_as) ?_
          refine JL.nil ?_
          replace hm := inl_onward hm hk41
          exact ⟨(i36 + 1), rfl, ⟨rfl, rfl, trivial⟩, ⟨rfl, trivial⟩, ⟨hm, inferInstance⟩, (muL hl44), inferInstance⟩
        ·
          replace hm := ite_F c76 hm
          refine J.condT rfl (congrArg Bool.not (show y75 = false from (eq_false_of_ne_true c76))) ?_
          refine J.seq ?_
          refine J.region ?_
          first | refine o_q (q_asv (v := .bool _) rfl) ?_ | refine o_q (q_as) ?_
          refine JL.nil ?_
          replace hm := inr_onward hm hk41
          refine J.ret ?_
          obtain rfl := Option.some.inj hm
          exact ret_ok (fn := Try.f27) rfl (.tmp rfl .nil) rfl
      ·
        replace hm := forL_nil c42 hm
        unfold M.torsionref06_Equal_k1 at hm
        refine J.condF rfl (decide_eq_false c42) ?_
        refine J.exit ?_
        refine J.seq ?_
        refine J.region ?_
        first | refine o_q (q_asv (v := .bool _) rfl) ?_ | refine o_q (q_as) ?_
        refine JL.nil ?_
        refine J.ret ?_
        obtain rfl := Option.some.inj hm
        exact ret_ok (fn := Try.f27) rfl (.tmp rfl .nil) rfl
set_option maxHeartbeats 4000000 in
theorem sparse_Transpose_fn {h : Heap} {x0 : TSparse} {v0 : Value} (r0 : AggV TSparseR h v0 x0) {r : TSparse} (hm : M.sparse_Transpose x0 = some r) :
    Fn Try.prog 30 #[v0] h fun v h' => AggV TSparseR h' v r := by
  obtain ⟨_, rfl, p21, n22, c23, rfl, f24⟩ := r0
  refine Fn.intro (args := [_]) Try.func30 rfl rfl (Nat.le_of_ble_eq_true rfl) fun w => ?_
  unfold M.sparse_Transpose at hm
  refine J.seq ?_
  refine J.region ?_
  first | refine o_bx (v := .agg ⟨[.int _ _, .int _ _, .slice _ _ _]⟩) rfl rfl (fun b25 => ?_) | refine o_bx rfl rfl (fun b25 => ?_)
  refine o_al (fun b26 => ?_)
  refine JL.nil ?_
  refine J.seq ?_
  obtain ⟨l27, e31, hm⟩ := bnd_some hm
  refine J.drawB [b25] [] ?_
  refine JD.calc 0 (by kernel_rfl) rfl trivial ss_subB (q_fa rfl) ?_
  refine JD.loadB 1 (by kernel_rfl) rfl trivial (q_ld rfl inferInstance rfl) ?_
  refine JD.calc 2 (by kernel_rfl) rfl trivial ss_subB (q_fa rfl) ?_
  refine JD.loadB 3 (by kernel_rfl) rfl trivial (q_ld rfl inferInstance rfl) ?_
  refine JD.calc 4 (by kernel_rfl) rfl trivial ss_subB (q_fa rfl) ?_
  refine JD.loadB 5 (by kernel_rfl) rfl trivial (q_ld rfl inferInstance rfl) ?_
  refine JD.all [6, 8] (by kernel_rfl) rfl ⟨?_, ?_, trivial⟩
  ·
    refine JX.effB rfl rfl trivial ?_
    refine o_mkLL (R := TTermR) (T := 71) (sz := 3) rfl rfl e31 (fun b28 hs29 w30 => ?_)
    refine JL.nil ⟨rfl, inferInstance, inferInstance, ?_⟩
    first | refine JD.calc 7 (by kernel_rfl) rfl trivial ss_subB (q_bd [.int _ _, .int _ _, .slice _ _ _] rfl) ?_ | refine JD.calc 7 (by kernel_rfl) rfl trivial ss_subB (q_bd [_, _, _] rfl) ?_
    refine JD.one 8 (by kernel_rfl) ?_
    refine JX.effB rfl rfl trivial ?_
    refine o_al (fun b32 => ?_)
    refine JL.nil ⟨rfl, inferInstance, inferInstance, ?_⟩
    refine JD.one 9 (by kernel_rfl) ?_
    refine JX.effB rfl rfl trivial ?_
    first | refine o_stc (vs := [.int _ _, .int _ _, .slice _ _ _]) (l' := [.int _ _, .int _ _, .slice _ _ _]) rfl rfl rfl rfl rfl inferInstance rfl rfl ?_ | refine o_stc (vs := [_, _, _]) (l' := [_, _, _]) rfl rfl rfl rfl rfl inferInstance rfl rfl ?_
    refine JL.nil ⟨rfl, inferInstance, inferInstance, ?_⟩
    refine JD.done (by kernel_rfl) ?_ _
    --
    refine J.seq ?_
    refine J.seq ?_
    refine J.region ?_
    refine o_q (q_fa rfl) ?_
    refine o_q (q_ld rfl inferInstance rfl) ?_
    refine o_q (q_lenE (k := x0.L.length) rfl (Sls.len f24)) ?_
    first | refine o_q (q_mvv (v := .int _ _) rfl) ?_ | refine o_q (q_mv) ?_
    refine JL.nil ?_
    refine J.block ?_
    obtain ⟨hl43, hm⟩ := rngL_some hm
    refine J.loopK (α := Nat × (List (List TTerm)) × Nat × (List Value) × Nat × Nat × Own) (fun ⟨i42, v33, b34, hs35, n36, c37, M38⟩ h' L' => (OwnLL TTermR 71 3 h' hs35 c37 v33 M38 ∧ n36 = v33.length) ∧ forL M.sparse_Transpose_b2 (M.sparse_Transpose_k2 x0) (List.drop i42 x0.L) i42 v33 = some r ∧ Sp ([(b34, row 26 hs35)] ++ (M38 ++ ([(b26, row 24 [.int .i64 0, .int .i64 0, .slice none 0 0]), (b32, row 24 [.int .i64 x0.Cols, .int .i64 x0.Rows, .slice (some ⟨b34, 0, none⟩) n36 c37])]))) L') [(2, .pointer _), (3, .pointer _), (17, .slice _ _ _), (18, .int _ _)] ⟨rfl, rfl, rfl, rfl, trivial⟩ (fun ⟨i42, v33, b34, hs35, n36, c37, M38⟩ => [(19, .int .i64 (i42 : Int))]) (fun ⟨i42, v33, b34, hs35, n36, c37, M38⟩ => x0.L.length - i42) ⟨0, l27, b28, hs29, l27.length, l27.length, []⟩ ⟨⟨OwnLL.mono w30, rfl⟩, hm, inferInstance⟩ ⟨rfl, trivial⟩ ?_
    rintro ⟨i42, v33, b34, hs35, n36, c37, M38⟩ σq44 hq44 Lq44 sq44 ⟨⟨w39, hn40⟩, hm, hspq44⟩
    refine J.sp hspq44 ?_
    refine J.seq ?_
    refine J.region ?_
    refine o_q (q_lss rfl rfl) ?_
    refine JL.nil ?_
    refine J.seq ?_
    by_cases c48 : (i42 : Int) < (x0.L.length : Int)
    ·
      obtain ⟨x49, o46, hl50, hx51, hm, hk47⟩ := forL_cons c48 hm
      unfold M.sparse_Transpose_b2 at hm
      refine J.condT rfl (decide_eq_true c48) ?_
      have k52 : -9223372036854775808 ≤ (i42 : Int) + 1 ∧ (i42 : Int) + 1 ≤ 9223372036854775807 := by omega
      refine J.skip ?_
      refine J.seq ?_
      refine J.block ?_
      refine J.seq ?_
      obtain ⟨b53, o54, rfl⟩ := Sls.op f24 hl50
      obtain ⟨us55, hc56, hR57⟩ := Sls.at f24 hx51
      obtain ⟨p58, n59, c60, rfl, f61⟩ := hR57
      refine J.region ?_
      first | refine o_q (q_mvv (v := .int _ _) rfl) ?_ | refine o_q (q_mv) ?_
      refine o_q (q_ian rfl rfl rfl (by first | exact hl50 | (rw [Sls.len f24]; exact hl50))) ?_
      refine o_q (q_ldf rfl hc56) ?_
      first | refine o_q (q_asv (v := .int _ _) rfl) ?_ | refine o_q (q_as) ?_
      first | refine o_q (q_asv (v := .slice _ _ _) rfl) ?_ | refine o_q (q_as) ?_
      refine JL.nil ?_
      refine J.seq ?_
      refine J.region ?_
      first | refine o_q (q_mvv (v := .slice _ _ _) rfl) ?_ | refine o_q (q_mv) ?_
      refine o_q (q_lenE (k := x49.length) rfl (Sls.len f61)) ?_
      first | refine o_q (q_mvv (v := .int _ _) rfl) ?_ | refine o_q (q_mv) ?_
      refine JL.nil ?_
      refine J.block ?_
      obtain ⟨hl72, hm⟩ := rngL_some hm
      refine J.loopK (α := Nat × (List (List TTerm)) × Nat × (List Value) × Nat × Nat × Own) (fun ⟨i71, v62, b63, hs64, n65, c66, M67⟩ h' L' => (OwnLL TTermR 71 3 h' hs64 c66 v62 M67 ∧ n65 = v62.length) ∧ forL (M.sparse_Transpose_b1 i42) M.sparse_Transpose_k1 (List.drop i71 x49) i71 v62 = some o46 ∧ Sp ([(b63, row 26 hs64)] ++ (M67 ++ ([(b26, row 24 [.int .i64 0, .int .i64 0, .slice none 0 0]), (b32, row 24 [.int .i64 x0.Cols, .int .i64 x0.Rows, .slice (some ⟨b63, 0, none⟩) n65 c66])]))) L') [(2, .pointer _), (3, .pointer _), (4, .int _ _), (17, .slice _ _ _), (18, .int _ _), (19, .int _ _), (24, .slice _ _ _), (25, .int _ _)] ⟨rfl, rfl, rfl, rfl, rfl, rfl, rfl, rfl, trivial⟩ (fun ⟨i71, v62, b63, hs64, n65, c66, M67⟩ => [(26, .int .i64 (i71 : Int))]) (fun ⟨i71, v62, b63, hs64, n65, c66, M67⟩ => x49.length - i71) ⟨0, v33, b34, hs35, n36, c37, M38⟩ ⟨⟨OwnLL.mono w39, hn40⟩, hm, inferInstance⟩ ⟨rfl, trivial⟩ ?_
      rintro ⟨i71, v62, b63, hs64, n65, c66, M67⟩ σq73 hq73 Lq73 sq73 ⟨⟨w68, hn69⟩, hm, hspq73⟩
      refine J.sp hspq73 ?_
      refine J.seq ?_
      refine J.region ?_
      refine o_q (q_lss rfl rfl) ?_
      refine JL.nil ?_
      refine J.seq ?_
      by_cases c77 : (i71 : Int) < (x49.length : Int)
      ·
        obtain ⟨x78, o75, hl79, hx80, hm, hk76⟩ := forL_cons c77 hm
        unfold M.sparse_Transpose_b1 at hm
        refine J.condT rfl (decide_eq_true c77) ?_
        have k81 : -9223372036854775808 ≤ (i71 : Int) + 1 ∧ (i71 : Int) + 1 ≤ 9223372036854775807 := by omega
        refine J.skip ?_
        refine J.seq ?_
        refine J.block ?_
        refine J.seq ?_
        obtain ⟨b82, o83, rfl⟩ := Sls.op f61 hl79
        obtain ⟨us84, hc85, hR86⟩ := Sls.at f61 hx80
        obtain ⟨g87, p88, n89, c90, rfl, f91⟩ := hR86
        refine J.region ?_
        refine o_q (q_ian rfl rfl rfl (by first | exact hl79 | (rw [Sls.len f61]; exact hl79))) ?_
        refine o_q (q_ldfa rfl hc85) ?_
        refine o_al (fun b92 => ?_)
        first | refine o_stc (vs := [.int _ _, .bool _, .slice _ _ _]) (l' := [.int _ _, .bool _, .slice _ _ _]) rfl rfl rfl rfl rfl inferInstance rfl rfl ?_ | refine o_stc (vs := [_, _, _]) (l' := [_, _, _]) rfl rfl rfl rfl rfl inferInstance rfl rfl ?_
        refine JL.nil ?_
        obtain ⟨i94, x93, hi95, hl96, hx97, hm⟩ := nth_some hm
        obtain ⟨p98, n99, c100, hh101, hn102⟩ := OwnLL.hdr w68 hx97
        obtain ⟨L106, M107, rm108, rm109, ho110, K111⟩ := OwnLL.row w68 hx97 hh101
        obtain ⟨l112, e113, hm⟩ := bnd_some hm
        refine J.drawB [b32, b92, b63] [17] ?_
        refine JD.calc 0 (by kernel_rfl) rfl trivial ss_subB (q_fa rfl) ?_
        refine JD.loadB 1 (by kernel_rfl) rfl trivial (q_ld rfl inferInstance rfl) ?_
        refine JD.calc 2 (by kernel_rfl) rfl trivial ss_subB (q_fa rfl) ?_
        refine JD.loadB 3 (by kernel_rfl) rfl trivial (q_ld rfl inferInstance rfl) ?_
        refine JD.calc 4 (by kernel_rfl) rfl trivial ss_subB (q_fa rfl) ?_
        refine JD.loadB 5 (by kernel_rfl) rfl trivial (q_ld rfl inferInstance rfl) ?_
        refine JD.calc 6 (by kernel_rfl) rfl trivial ss_subB (q_fa rfl) ?_
        refine JD.loadB 7 (by kernel_rfl) rfl trivial (q_ld rfl inferInstance rfl) ?_
        refine JD.calc 8 (by kernel_rfl) rfl trivial ss_subB (q_ian rfl rfl hi95 (by rw [show n65 = _ from hn69]; exact hl96)) ?_
        refine JD.loadB 9 (by kernel_rfl) rfl trivial (q_ld rfl inferInstance (hdr_at hh101)) ?_
        first | refine JD.calc 10 (by kernel_rfl) rfl trivial ss_subB (q_mvv (v := .int _ _) rfl) ?_ | refine JD.calc 10 (by kernel_rfl) rfl trivial ss_subB (q_mv) ?_
        refine JD.calc 11 (by kernel_rfl) rfl trivial ss_subB (q_fa rfl) ?_
        refine JD.loadB 12 (by kernel_rfl) rfl trivial (q_lda (vs := [_, _]) rfl inferInstance ⟨rfl, rfl, trivial⟩) ?_
        first | refine JD.calc 13 (by kernel_rfl) rfl trivial ss_subB (q_bd [.int _ _, .bool _, .slice _ _ _] rfl) ?_ | refine JD.calc 13 (by kernel_rfl) rfl trivial ss_subB (q_bd [_, _, _] rfl) ?_
        refine JD.one 14 (by kernel_rfl) ?_
        refine JX.effB rfl rfl trivial ?_
        first | refine o_bs [.int _ _, .bool _, .slice _ _ _] (by decide) rfl (fun b103 => ?_) | refine o_bs [_, _, _] (by decide) rfl (fun b103 => ?_)
        refine JL.fact (fun h => Cells TTermR 3 h [.int .i64 (i42 : Int), .bool g87, .slice p88 n89 c90] [(TTerm.mk (i42 : Int) x78.V)]) (show Cells TTermR 3 _ [.int .i64 (i42 : Int), .bool g87, .slice p88 n89 c90] [(TTerm.mk (i42 : Int) x78.V)] from (Cells.cons (R := TTermR) (us := [.int .i64 (i42 : Int), .bool g87, .slice p88 n89 c90]) rfl ⟨_, _, _, _, rfl, (Mo.up f91)⟩ Cells.nil)) (fun hc104 => ?_)
        refine JL.fact (fun h => OwnL TTermR 71 3 h (.slice (some ⟨b103, 0, none⟩) 1 1) [(TTerm.mk (i42 : Int) x78.V)] [(b103, row 71 [.int .i64 (i42 : Int), .bool g87, .slice p88 n89 c90])]) (OwnL.lit _ rfl hc104 rfl) (fun ho105 => ?_)
        refine JL.nil ⟨rfl, inferInstance, inferInstance, ?_⟩
        refine JD.one 15 (by kernel_rfl) ?_
        refine JX.effB rfl rfl trivial ?_
        refine o_appB (R := TTermR) rfl rfl (OwnL.mono ho110) inferInstance hc104 e113 (fun p114 c115 L116 ho117 => ?_)
        refine JL.nil ⟨rfl, inferInstance, inferInstance, ?_⟩
        refine JD.calc 16 (by kernel_rfl) rfl trivial ss_subB (q_ian rfl rfl hi95 (by rw [show n65 = _ from hn69]; exact hl96)) ?_
        refine JD.one 17 (by kernel_rfl) ?_
        refine JX.mut rfl rfl trivial ?_
        refine o_stH rfl rfl inferInstance (OwnLL.hlen w68 hx97) ?_
        refine JL.fact (fun h => OwnLL TTermR 71 3 h (hs64.set i94 (.slice p114 l112.length c115)) c66 (setL v62 x78.Col l112) (L116 ++ M107)) (by rw [setL_eq hi95]; exact K111 _ _ _ _ _ _ inferInstance (OwnL.mono ho117)) (fun w118 => ?_)
        refine JL.nil ⟨rfl, ?_⟩
        refine JD.done (by kernel_rfl) ?_ _
        --
        refine J.region ?_
        refine o_q (q_add rfl rfl (wi64 k81)) ?_
        first | refine o_q (q_mvv (v := .int _ _) rfl) ?_ | refine o_q (q_mv) ?_
        refine JL.nil ?_
        replace hm := inl_onward hm hk76
        exact ⟨⟨i71 + 1, (setL v62 x78.Col l112), b63, (hs64.set i94 (.slice p114 l112.length c115)), n65, c66, (L116 ++ M107)⟩, rfl, ⟨rfl, rfl, rfl, rfl, rfl, rfl, rfl, rfl, trivial⟩, ⟨rfl, trivial⟩, ⟨⟨OwnLL.mono w118, (setL_hn hn69)⟩, hm, inferInstance⟩, (muL hl79), inferInstance⟩
      ·
        replace hm := forL_nil c77 hm
        unfold M.sparse_Transpose_k1 at hm
        refine J.condF rfl (decide_eq_false c77) ?_
        refine J.exit ?_
        refine J.region ?_
        refine o_q (q_add rfl rfl (wi64 k52)) ?_
        first | refine o_q (q_mvv (v := .int _ _) rfl) ?_ | refine o_q (q_mv) ?_
        refine JL.nil ?_
        replace hm := inl_onward hm hk47
        exact ⟨⟨i42 + 1, v62, b63, hs64, n65, c66, M67⟩, rfl, ⟨rfl, rfl, rfl, rfl, trivial⟩, ⟨rfl, trivial⟩, ⟨⟨OwnLL.mono w68, hn69⟩, hm, inferInstance⟩, (muL hl50), inferInstance⟩
    ·
      replace hm := forL_nil c48 hm
      unfold M.sparse_Transpose_k2 at hm
      refine J.condF rfl (decide_eq_false c48) ?_
      refine J.exit ?_
      refine J.seq ?_
      refine J.region ?_
      refine o_q (q_lda (vs := [_, _, _]) rfl inferInstance ⟨rfl, rfl, rfl, trivial⟩) ?_
      first | refine o_stc (vs := [.int _ _, .int _ _, .slice _ _ _]) (l' := [.int _ _, .int _ _, .slice _ _ _]) rfl rfl rfl rfl rfl inferInstance rfl rfl ?_ | refine o_stc (vs := [_, _, _]) (l' := [_, _, _]) rfl rfl rfl rfl rfl inferInstance rfl rfl ?_
      refine JL.nil ?_
      refine J.fzLL (b := b34) (T2 := 26) (OwnLL.mono w39) hn40 (fun h119 s120 f121 => ?_)
      refine J.ret ?_
      obtain rfl := Option.some.inj hm
      exact ret_ok (fn := Try.f30) rfl (.agg rfl inferInstance inferInstance .nil) ⟨_, rfl, ⟨_, _, _, rfl, Sls.mono f121⟩⟩
  ·
    refine JX.effB rfl rfl trivial ?_
    refine o_al (fun b32 => ?_)
    refine JL.nil ⟨rfl, inferInstance, inferInstance, ?_⟩
    refine JD.one 6 (by kernel_rfl) ?_
    refine JX.effB rfl rfl trivial ?_
    refine o_mkLL (R := TTermR) (T := 71) (sz := 3) rfl rfl e31 (fun b28 hs29 w30 => ?_)
    refine JL.nil ⟨rfl, inferInstance, inferInstance, ?_⟩
    first | refine JD.calc 7 (by kernel_rfl) rfl trivial ss_subB (q_bd [.int _ _, .int _ _, .slice _ _ _] rfl) ?_ | refine JD.calc 7 (by kernel_rfl) rfl trivial ss_subB (q_bd [_, _, _] rfl) ?_
    refine JD.one 9 (by kernel_rfl) ?_
    refine JX.effB rfl rfl trivial ?_
    first | refine o_stc (vs := [.int _ _, .int _ _, .slice _ _ _]) (l' := [.int _ _, .int _ _, .slice _ _ _]) rfl rfl rfl rfl rfl inferInstance rfl rfl ?_ | refine o_stc (vs := [_, _, _]) (l' := [_, _, _]) rfl rfl rfl rfl rfl inferInstance rfl rfl ?_
    refine JL.nil ⟨rfl, inferInstance, inferInstance, ?_⟩
    refine JD.done (by kernel_rfl) ?_ _
    --
    refine J.seq ?_
    refine J.seq ?_
    refine J.region ?_
    refine o_q (q_fa rfl) ?_
    refine o_q (q_ld rfl inferInstance rfl) ?_
    refine o_q (q_lenE (k := x0.L.length) rfl (Sls.len f24)) ?_
    first | refine o_q (q_mvv (v := .int _ _) rfl) ?_ | refine o_q (q_mv) ?_
    refine JL.nil ?_
    refine J.block ?_
    obtain ⟨hl43, hm⟩ := rngL_some hm
    refine J.loopK (α := Nat × (List (List TTerm)) × Nat × (List Value) × Nat × Nat × Own) (fun ⟨i42, v33, b34, hs35, n36, c37, M38⟩ h' L' => (OwnLL TTermR 71 3 h' hs35 c37 v33 M38 ∧ n36 = v33.length) ∧ forL M.sparse_Transpose_b2 (M.sparse_Transpose_k2 x0) (List.drop i42 x0.L) i42 v33 = some r ∧ Sp ([(b34, row 26 hs35)] ++ (M38 ++ ([(b26, row 24 [.int .i64 0, .int .i64 0, .slice none 0 0]), (b32, row 24 [.int .i64 x0.Cols, .int .i64 x0.Rows, .slice (some ⟨b34, 0, none⟩) n36 c37])]))) L') [(2, .pointer _), (3, .pointer _), (17, .slice _ _ _), (18, .int _ _)] ⟨rfl, rfl, rfl, rfl, trivial⟩ (fun ⟨i42, v33, b34, hs35, n36, c37, M38⟩ => [(19, .int .i64 (i42 : Int))]) (fun ⟨i42, v33, b34, hs35, n36, c37, M38⟩ => x0.L.length - i42) ⟨0, l27, b28, hs29, l27.length, l27.length, []⟩ ⟨⟨OwnLL.mono w30, rfl⟩, hm, inferInstance⟩ ⟨rfl, trivial⟩ ?_
    rintro ⟨i42, v33, b34, hs35, n36, c37, M38⟩ σq44 hq44 Lq44 sq44 ⟨⟨w39, hn40⟩, hm, hspq44⟩
    refine J.sp hspq44 ?_
    refine J.seq ?_
    refine J.region ?_
    refine o_q (q_lss rfl rfl) ?_
    refine JL.nil ?_
    refine J.seq ?_
    by_cases c48 : (i42 : Int) < (x0.L.length : Int)
    ·
      obtain ⟨x49, o46, hl50, hx51, hm, hk47⟩ := forL_cons c48 hm
      unfold M.sparse_Transpose_b2 at hm
      refine J.condT rfl (decide_eq_true c48) ?_
      have k52 : -9223372036854775808 ≤ (i42 : Int) + 1 ∧ (i42 : Int) + 1 ≤ 9223372036854775807 := by omega
      refine J.skip ?_
      refine J.seq ?_
      refine J.block ?_
      refine J.seq ?_
      obtain ⟨b53, o54, rfl⟩ := Sls.op f24 hl50
      obtain ⟨us55, hc56, hR57⟩ := Sls.at f24 hx51
      obtain ⟨p58, n59, c60, rfl, f61⟩ := hR57
      refine J.region ?_
      first | refine o_q (q_mvv (v := .int _ _) rfl) ?_ | refine o_q (q_mv) ?_
      refine o_q (q_ian rfl rfl rfl (by first | exact hl50 | (rw [Sls.len f24]; exact hl50))) ?_
      refine o_q (q_ldf rfl hc56) ?_
      first | refine o_q (q_asv (v := .int _ _) rfl) ?_ | refine o_q (q_as) ?_
      first | refine o_q (q_asv (v := .slice _ _ _) rfl) ?_ | refine o_q (q_as) ?_
      refine JL.nil ?_
      refine J.seq ?_
      refine J.region ?_
      first | refine o_q (q_mvv (v := .slice _ _ _) rfl) ?_ | refine o_q (q_mv) ?_
      refine o_q (q_lenE (k := x49.length) rfl (Sls.len f61)) ?_
      first | refine o_q (q_mvv (v := .int _ _) rfl) ?_ | refine o_q (q_mv) ?_
      refine JL.nil ?_
      refine J.block ?_
      obtain ⟨hl72, hm⟩ := rngL_some hm
      refine J.loopK (α := Nat × (List (List TTerm)) × Nat × (List Value) × Nat × Nat × Own) (fun ⟨i71, v62, b63, hs64, n65, c66, M67⟩ h' L' => (OwnLL TTermR 71 3 h' hs64 c66 v62 M67 ∧ n65 = v62.length) ∧ forL (M.sparse_Transpose_b1 i42) M.sparse_Transpose_k1 (List.drop i71 x49) i71 v62 = some o46 ∧ Sp ([(b63, row 26 hs64)] ++ (M67 ++ ([(b26, row 24 [.int .i64 0, .int .i64 0, .slice none 0 0]), (b32, row 24 [.int .i64 x0.Cols, .int .i64 x0.Rows, .slice (some ⟨b63, 0, none⟩) n65 c66])]))) L') [(2, .pointer _), (3, .pointer _), (4, .int _ _), (17, .slice _ _ _), (18, .int _ _), (19, .int _ _), (24, .slice _ _ _), (25, .int _ _)] ⟨rfl, rfl, rfl, rfl, rfl, rfl, rfl, rfl, trivial⟩ (fun ⟨i71, v62, b63, hs64, n65, c66, M67⟩ => [(26, .int .i64 (i71 : Int))]) (fun ⟨i71, v62, b63, hs64, n65, c66, M67⟩ => x49.length - i71) ⟨0, v33, b34, hs35, n36, c37, M38⟩ ⟨⟨OwnLL.mono w39, hn40⟩, hm, inferInstance⟩ ⟨rfl, trivial⟩ ?_
      rintro ⟨i71, v62, b63, hs64, n65, c66, M67⟩ σq73 hq73 Lq73 sq73 ⟨⟨w68, hn69⟩, hm, hspq73⟩
      refine J.sp hspq73 ?_
      refine J.seq ?_
      refine J.region ?_
      refine o_q (q_lss rfl rfl) ?_
      refine JL.nil ?_
      refine J.seq ?_
      by_cases c77 : (i71 : Int) < (x49.length : Int)
      ·
        obtain ⟨x78, o75, hl79, hx80, hm, hk76⟩ := forL_cons c77 hm
        unfold M.sparse_Transpose_b1 at hm
        refine J.condT rfl (decide_eq_true c77) ?_
        have k81 : -9223372036854775808 ≤ (i71 : Int) + 1 ∧ (i71 : Int) + 1 ≤ 9223372036854775807 := by omega
        refine J.skip ?_
        refine J.seq ?_
        refine J.block ?_
        refine J.seq ?_
        obtain ⟨b82, o83, rfl⟩ := Sls.op f61 hl79
        obtain ⟨us84, hc85, hR86⟩ := Sls.at f61 hx80
        obtain ⟨g87, p88, n89, c90, rfl, f91⟩ := hR86
        refine J.region ?_
        refine o_q (q_ian rfl rfl rfl (by first | exact hl79 | (rw [Sls.len f61]; exact hl79))) ?_
        refine o_q (q_ldfa rfl hc85) ?_
        refine o_al (fun b92 => ?_)
        first | refine o_stc (vs := [.int _ _, .bool _, .slice _ _ _]) (l' := [.int _ _, .bool _, .slice _ _ _]) rfl rfl rfl rfl rfl inferInstance rfl rfl ?_ | refine o_stc (vs := [_, _, _]) (l' := [_, _, _]) rfl rfl rfl rfl rfl inferInstance rfl rfl ?_
        refine JL.nil ?_
        obtain ⟨i94, x93, hi95, hl96, hx97, hm⟩ := nth_some hm
        obtain ⟨p98, n99, c100, hh101, hn102⟩ := OwnLL.hdr w68 hx97
        obtain ⟨L106, M107, rm108, rm109, ho110, K111⟩ := OwnLL.row w68 hx97 hh101
        obtain ⟨l112, e113, hm⟩ := bnd_some hm
        refine J.drawB [b32, b92, b63] [17] ?_
        refine JD.calc 0 (by kernel_rfl) rfl trivial ss_subB (q_fa rfl) ?_
        refine JD.loadB 1 (by kernel_rfl) rfl trivial (q_ld rfl inferInstance rfl) ?_
        refine JD.calc 2 (by kernel_rfl) rfl trivial ss_subB (q_fa rfl) ?_
        refine JD.loadB 3 (by kernel_rfl) rfl trivial (q_ld rfl inferInstance rfl) ?_
        refine JD.calc 4 (by kernel_rfl) rfl trivial ss_subB (q_fa rfl) ?_
        refine JD.loadB 5 (by kernel_rfl) rfl trivial (q_ld rfl inferInstance rfl) ?_
        refine JD.calc 6 (by kernel_rfl) rfl trivial ss_subB (q_fa rfl) ?_
        refine JD.loadB 7 (by kernel_rfl) rfl trivial (q_ld rfl inferInstance rfl) ?_
        refine JD.calc 8 (by kernel_rfl) rfl trivial ss_subB (q_ian rfl rfl hi95 (by rw [show n65 = _ from hn69]; exact hl96)) ?_
        refine JD.loadB 9 (by kernel_rfl) rfl trivial (q_ld rfl inferInstance (hdr_at hh101)) ?_
        first | refine JD.calc 10 (by kernel_rfl) rfl trivial ss_subB (q_mvv (v := .int _ _) rfl) ?_ | refine JD.calc 10 (by kernel_rfl) rfl trivial ss_subB (q_mv) ?_
        refine JD.calc 11 (by kernel_rfl) rfl trivial ss_subB (q_fa rfl) ?_
        refine JD.loadB 12 (by kernel_rfl) rfl trivial (q_lda (vs := [_, _]) rfl inferInstance ⟨rfl, rfl, trivial⟩) ?_
        first | refine JD.calc 13 (by kernel_rfl) rfl trivial ss_subB (q_bd [.int _ _, .bool _, .slice _ _ _] rfl) ?_ | refine JD.calc 13 (by kernel_rfl) rfl trivial ss_subB (q_bd [_, _, _] rfl) ?_
        refine JD.one 14 (by kernel_rfl) ?_
        refine JX.effB rfl rfl trivial ?_
        first | refine o_bs [.int _ _, .bool _, .slice _ _ _] (by decide) rfl (fun b103 => ?_) | refine o_bs [_, _, _] (by decide) rfl (fun b103 => ?_)
        refine JL.fact (fun h => Cells TTermR 3 h [.int .i64 (i42 : Int), .bool g87, .slice p88 n89 c90] [(TTerm.mk (i42 : Int) x78.V)]) (show Cells TTermR 3 _ [.int .i64 (i42 : Int), .bool g87, .slice p88 n89 c90] [(TTerm.mk (i42 : Int) x78.V)] from (Cells.cons (R := TTermR) (us := [.int .i64 (i42 : Int), .bool g87, .slice p88 n89 c90]) rfl ⟨_, _, _, _, rfl, (Mo.up f91)⟩ Cells.nil)) (fun hc104 => ?_)
        refine JL.fact (fun h => OwnL TTermR 71 3 h (.slice (some ⟨b103, 0, none⟩) 1 1) [(TTerm.mk (i42 : Int) x78.V)] [(b103, row 71 [.int .i64 (i42 : Int), .bool g87, .slice p88 n89 c90])]) (OwnL.lit _ rfl hc104 rfl) (fun ho105 => ?_)
        refine JL.nil ⟨rfl, inferInstance, inferInstance, ?_⟩
        refine JD.one 15 (by kernel_rfl) ?_
        refine JX.effB rfl rfl trivial ?_
        refine o_appB (R := TTermR) rfl rfl (OwnL.mono ho110) inferInstance hc104 e113 (fun p114 c115 L116 ho117 => ?_)
        refine JL.nil ⟨rfl, inferInstance, inferInstance, ?_⟩
        refine JD.calc 16 (by kernel_rfl) rfl trivial ss_subB (q_ian rfl rfl hi95 (by rw [show n65 = _ from hn69]; exact hl96)) ?_
        refine JD.one 17 (by kernel_rfl) ?_
        refine JX.mut rfl rfl trivial ?_
        refine o_stH rfl rfl inferInstance (OwnLL.hlen w68 hx97) ?_
        refine JL.fact (fun h => OwnLL TTermR 71 3 h (hs64.set i94 (.slice p114 l112.length c115)) c66 (setL v62 x78.Col l112) (L116 ++ M107)) (by rw [setL_eq hi95]; exact K111 _ _ _ _ _ _ inferInstance (OwnL.mono ho117)) (fun w118 => ?_)
        refine JL.nil ⟨rfl, ?_⟩
        refine JD.done (by kernel_rfl) ?_ _
        --
        refine J.region ?_
        refine o_q (q_add rfl rfl (wi64 k81)) ?_
        first | refine o_q (q_mvv (v := .int _ _) rfl) ?_ | refine o_q (q_mv) ?_
        refine JL.nil ?_
        replace hm := inl_onward hm hk76
        exact ⟨⟨i71 + 1, (setL v62 x78.Col l112), b63, (hs64.set i94 (.slice p114 l112.length c115)), n65, c66, (L116 ++ M107)⟩, rfl, ⟨rfl, rfl, rfl, rfl, rfl, rfl, rfl, rfl, trivial⟩, ⟨rfl, trivial⟩, ⟨⟨OwnLL.mono w118, (setL_hn hn69)⟩, hm, inferInstance⟩, (muL hl79), inferInstance⟩
      ·
        replace hm := forL_nil c77 hm
        unfold M.sparse_Transpose_k1 at hm
        refine J.condF rfl (decide_eq_false c77) ?_
        refine J.exit ?_
        refine J.region ?_
        refine o_q (q_add rfl rfl (wi64 k52)) ?_
        first | refine o_q (q_mvv (v := .int _ _) rfl) ?_ | refine o_q (q_mv) ?_
        refine JL.nil ?_
        replace hm := inl_onward hm hk47
        exact ⟨⟨i42 + 1, v62, b63, hs64, n65, c66, M67⟩, rfl, ⟨rfl, rfl, rfl, rfl, trivial⟩, ⟨rfl, trivial⟩, ⟨⟨OwnLL.mono w68, hn69⟩, hm, inferInstance⟩, (muL hl50), inferInstance⟩
    ·
      replace hm := forL_nil c48 hm
      unfold M.sparse_Transpose_k2 at hm
      refine J.condF rfl (decide_eq_false c48) ?_
      refine J.exit ?_
      refine J.seq ?_
      refine J.region ?_
      refine o_q (q_lda (vs := [_, _, _]) rfl inferInstance ⟨rfl, rfl, rfl, trivial⟩) ?_
      first | refine o_stc (vs := [.int _ _, .int _ _, .slice _ _ _]) (l' := [.int _ _, .int _ _, .slice _ _ _]) rfl rfl rfl rfl rfl inferInstance rfl rfl ?_ | refine o_stc (vs := [_, _, _]) (l' := [_, _, _]) rfl rfl rfl rfl rfl inferInstance rfl rfl ?_
      refine JL.nil ?_
      refine J.fzLL (b := b34) (T2 := 26) (OwnLL.mono w39) hn40 (fun h119 s120 f121 => ?_)
      refine J.ret ?_
      obtain rfl := Option.some.inj hm
      exact ret_ok (fn := Try.f30) rfl (.agg rfl inferInstance inferInstance .nil) ⟨_, rfl, ⟨_, _, _, rfl, Sls.mono f121⟩⟩
set_option maxHeartbeats 4000000 in
theorem sparse_Times_fn {h : Heap} {x0 : List Int} {x1 : TSparse} {v0 : Value} {v1 : Value} (r0 : Sls IntR 2 h v0 x0) (r1 : AggV TSparseR h v1 x1) {r : (List Int) × Int} (hm : M.sparse_Times x0 x1 = some r) :
    Fn Try.prog 31 #[v0, v1] h fun v h' => ∃ u0 u1, v = .tuple ⟨[u0, u1]⟩ ∧ Sls IntR 2 h' u0 r.1 ∧ u1 = .int .i64 r.2 := by
  obtain ⟨p21, n22, c23, rfl, f24⟩ := Sls.op3 r0
  obtain ⟨_, rfl, p25, n26, c27, rfl, f28⟩ := r1
  refine Fn.intro (args := [_, _]) Try.func31 rfl rfl (Nat.le_of_ble_eq_true rfl) fun w => ?_
  unfold M.sparse_Times at hm
  refine J.seq ?_
  refine J.region ?_
  first | refine o_bx (v := .agg ⟨[.int _ _, .int _ _, .slice _ _ _]⟩) rfl rfl (fun b29 => ?_) | refine o_bx rfl rfl (fun b29 => ?_)
  first | refine o_q (q_asv (v := .slice _ _ _) rfl) ?_ | refine o_q (q_as) ?_
  first | refine o_q (q_asv (v := .int _ _) rfl) ?_ | refine o_q (q_as) ?_
  refine JL.nil ?_
  refine J.seq ?_
  refine J.seq ?_
  refine J.region ?_
  first | refine o_q (q_mvv (v := .slice _ _ _) rfl) ?_ | refine o_q (q_mv) ?_
  refine o_q (q_lenE (k := x0.length) rfl (Sls.len f24)) ?_
  refine o_q (q_fa rfl) ?_
  refine o_q (q_ld rfl inferInstance rfl) ?_
  refine o_q (q_neq rfl rfl) ?_
  refine JL.nil ?_
  by_cases c30 : (x0.length : Int) = x1.Rows
  ·
    replace hm := ite_T c30 hm
    refine J.condF rfl (decide_eq_false (fun z => z c30)) ?_
    refine J.skip ?_
    refine J.seq ?_
    obtain ⟨l31, e36, hm⟩ := bnd_some hm
    refine J.region ?_
    refine o_q (q_fa rfl) ?_
    refine o_q (q_ld rfl inferInstance rfl) ?_
    refine o_mkO (R := IntR) rfl rfl e36 (IntR.zero0 _) (fun p32 c33 L34 ho35 => ?_)
    first | refine o_q (q_asv (v := .slice _ _ _) rfl) ?_ | refine o_q (q_as) ?_
    refine JL.nil ?_
    refine J.seq ?_
    refine J.seq ?_
    refine J.region ?_
    refine o_q (q_fa rfl) ?_
    refine o_q (q_ld rfl inferInstance rfl) ?_
    refine o_q (q_lenE (k := x1.L.length) rfl (Sls.len f28)) ?_
    first | refine o_q (q_mvv (v := .int _ _) rfl) ?_ | refine o_q (q_mv) ?_
    refine JL.nil ?_
    refine J.block ?_
    obtain ⟨hl45, hm⟩ := rngL_some hm
    refine J.loopK (α := Nat × (List Int) × (Option Addr) × Nat × Nat × Own) (fun ⟨i44, v37, p38, n39, c40, L42⟩ h' L' => OwnL IntR 37 2 h' (.slice p38 n39 c40) v37 L42 ∧ forL (M.sparse_Times_b2 x0) M.sparse_Times_k2 (List.drop i44 x1.L) i44 v37 = some r ∧ Sp (L42 ++ ([])) L') [(0, .slice _ _ _), (20, .slice _ _ _), (21, .int _ _)] ⟨rfl, rfl, rfl, trivial⟩ (fun ⟨i44, v37, p38, n39, c40, L42⟩ => [(6, .slice p38 n39 c40), (22, .int .i64 (i44 : Int))]) (fun ⟨i44, v37, p38, n39, c40, L42⟩ => x1.L.length - i44) ⟨0, l31, p32, l31.length, c33, L34⟩ ⟨(OwnL.mono ho35), hm, inferInstance⟩ ⟨rfl, rfl, trivial⟩ ?_
    rintro ⟨i44, v37, p38, n39, c40, L42⟩ σq46 hq46 Lq46 sq46 ⟨f41, hm, hspq46⟩
    refine J.sp hspq46 ?_
    refine J.seq ?_
    refine J.region ?_
    refine o_q (q_lss rfl rfl) ?_
    refine JL.nil ?_
    refine J.seq ?_
    by_cases c50 : (i44 : Int) < (x1.L.length : Int)
    ·
      obtain ⟨x51, o48, hl52, hx53, hm, hk49⟩ := forL_cons c50 hm
      unfold M.sparse_Times_b2 at hm
      refine J.condT rfl (decide_eq_true c50) ?_
      have k54 : -9223372036854775808 ≤ (i44 : Int) + 1 ∧ (i44 : Int) + 1 ≤ 9223372036854775807 := by omega
      refine J.skip ?_
      refine J.seq ?_
      refine J.block ?_
      refine J.seq ?_
      obtain ⟨b55, o56, rfl⟩ := Sls.op f28 hl52
      obtain ⟨us57, hc58, hR59⟩ := Sls.at f28 hx53
      obtain ⟨p60, n61, c62, rfl, f63⟩ := hR59
      refine J.region ?_
      first | refine o_q (q_mvv (v := .int _ _) rfl) ?_ | refine o_q (q_mv) ?_
      refine o_q (q_ian rfl rfl rfl (by first | exact hl52 | (rw [Sls.len f28]; exact hl52))) ?_
      refine o_q (q_ldf rfl hc58) ?_
      first | refine o_q (q_asv (v := .int _ _) rfl) ?_ | refine o_q (q_as) ?_
      first | refine o_q (q_asv (v := .slice _ _ _) rfl) ?_ | refine o_q (q_as) ?_
      refine JL.nil ?_
      refine J.seq ?_
      refine J.region ?_
      first | refine o_q (q_mvv (v := .slice _ _ _) rfl) ?_ | refine o_q (q_mv) ?_
      refine o_q (q_lenE (k := x51.length) rfl (Sls.len f63)) ?_
      first | refine o_q (q_mvv (v := .int _ _) rfl) ?_ | refine o_q (q_mv) ?_
      refine JL.nil ?_
      refine J.block ?_
      obtain ⟨hl72, hm⟩ := rngL_some hm
      refine J.loopK (α := Nat × (List Int) × (Option Addr) × Nat × Nat × Own) (fun ⟨i71, v64, p65, n66, c67, L69⟩ h' L' => OwnL IntR 37 2 h' (.slice p65 n66 c67) v64 L69 ∧ forL (M.sparse_Times_b1 x0 i44) M.sparse_Times_k1 (List.drop i71 x51) i71 v64 = some o48 ∧ Sp (L69 ++ ([])) L') [(0, .slice _ _ _), (7, .int _ _), (20, .slice _ _ _), (21, .int _ _), (22, .int _ _), (27, .slice _ _ _), (28, .int _ _)] ⟨rfl, rfl, rfl, rfl, rfl, rfl, rfl, trivial⟩ (fun ⟨i71, v64, p65, n66, c67, L69⟩ => [(6, .slice p65 n66 c67), (29, .int .i64 (i71 : Int))]) (fun ⟨i71, v64, p65, n66, c67, L69⟩ => x51.length - i71) ⟨0, v37, p38, n39, c40, L42⟩ ⟨(OwnL.mono f41), hm, inferInstance⟩ ⟨rfl, rfl, trivial⟩ ?_
      rintro ⟨i71, v64, p65, n66, c67, L69⟩ σq73 hq73 Lq73 sq73 ⟨f68, hm, hspq73⟩
      refine J.sp hspq73 ?_
      refine J.seq ?_
      refine J.region ?_
      refine o_q (q_lss rfl rfl) ?_
      refine JL.nil ?_
      refine J.seq ?_
      by_cases c77 : (i71 : Int) < (x51.length : Int)
      ·
        obtain ⟨x78, o75, hl79, hx80, hm, hk76⟩ := forL_cons c77 hm
        unfold M.sparse_Times_b1 at hm
        refine J.condT rfl (decide_eq_true c77) ?_
        have k81 : -9223372036854775808 ≤ (i71 : Int) + 1 ∧ (i71 : Int) + 1 ≤ 9223372036854775807 := by omega
        refine J.skip ?_
        refine J.seq ?_
        refine J.block ?_
        refine J.seq ?_
        obtain ⟨b82, o83, rfl⟩ := Sls.op f63 hl79
        obtain ⟨us84, hc85, hR86⟩ := Sls.at f63 hx80
        obtain ⟨g87, p88, n89, c90, rfl, f91⟩ := hR86
        refine J.region ?_
        refine o_q (q_ian rfl rfl rfl (by first | exact hl79 | (rw [Sls.len f63]; exact hl79))) ?_
        refine o_q (q_ldfa rfl hc85) ?_
        refine o_al (fun b92 => ?_)
        first | refine o_stc (vs := [.int _ _, .bool _, .slice _ _ _]) (l' := [.int _ _, .bool _, .slice _ _ _]) rfl rfl rfl rfl rfl inferInstance rfl rfl ?_ | refine o_stc (vs := [_, _, _]) (l' := [_, _, _]) rfl rfl rfl rfl rfl inferInstance rfl rfl ?_
        refine JL.nil ?_
        obtain ⟨i94, x93, hi95, hl96, hx97, hm⟩ := nth_some hm
        obtain ⟨b98, cs99, rfl, rfl, hn101, oc100⟩ := OwnL.blk f68 hl96
        obtain ⟨us102, hk103, hR104, _⟩ := OwnC.get oc100 hx97
        obtain ⟨g105, p106, n107, c108, rfl, f109⟩ := IntR.op hR104
        obtain ⟨i111, x110, hi112, hl113, hx114, hm⟩ := nth_some hm
        obtain ⟨b115, o116, rfl⟩ := Sls.op f24 hl113
        obtain ⟨us117, hc118, hR119⟩ := Sls.at f24 hx114
        obtain ⟨g120, p121, n122, c123, rfl, f124⟩ := IntR.op hR119
        obtain ⟨y130, e129, hm⟩ := bnd_some hm
        obtain ⟨y141, e140, hm⟩ := bnd_some hm
        refine J.drawB [b92, b98] [17] ?_
        first | refine JD.calc 0 (by kernel_rfl) rfl trivial ss_subB (q_mvv (v := .slice _ _ _) rfl) ?_ | refine JD.calc 0 (by kernel_rfl) rfl trivial ss_subB (q_mv) ?_
        refine JD.calc 1 (by kernel_rfl) rfl trivial ss_subB (q_fa rfl) ?_
        refine JD.loadB 2 (by kernel_rfl) rfl trivial (q_ld rfl inferInstance rfl) ?_
        first | refine JD.calc 3 (by kernel_rfl) rfl trivial ss_subB (q_mvv (v := .slice _ _ _) rfl) ?_ | refine JD.calc 3 (by kernel_rfl) rfl trivial ss_subB (q_mv) ?_
        refine JD.calc 4 (by kernel_rfl) rfl trivial ss_subB (q_fa rfl) ?_
        refine JD.loadB 5 (by kernel_rfl) rfl trivial (q_ld rfl inferInstance rfl) ?_
        refine JD.calc 6 (by kernel_rfl) rfl trivial ss_subB (q_ian rfl rfl hi95 (by rw [hn101]; exact hl96)) ?_
        refine JD.loadB 7 (by kernel_rfl) rfl trivial (q_ldOa0 rfl inferInstance hk103) ?_
        first | refine JD.calc 8 (by kernel_rfl) rfl trivial ss_subB (q_mvv (v := .slice _ _ _) rfl) ?_ | refine JD.calc 8 (by kernel_rfl) rfl trivial ss_subB (q_mv) ?_
        first | refine JD.calc 9 (by kernel_rfl) rfl trivial ss_subB (q_mvv (v := .int _ _) rfl) ?_ | refine JD.calc 9 (by kernel_rfl) rfl trivial ss_subB (q_mv) ?_
        refine JD.calc 10 (by kernel_rfl) rfl trivial ss_subB (q_ian rfl rfl hi112 (by first | exact hl113 | (rw [Sls.len f24]; exact hl113))) ?_
        refine JD.loadB 11 (by kernel_rfl) rfl trivial (q_ldfa rfl hc118) ?_
        refine JD.calc 12 (by kernel_rfl) rfl trivial ss_subB (q_fa rfl) ?_
        refine JD.loadB 13 (by kernel_rfl) rfl trivial (q_lda (vs := [_, _]) rfl inferInstance ⟨rfl, rfl, trivial⟩) ?_
        refine JD.one 14 (by kernel_rfl) ?_
        refine JX.effB rfl rfl trivial ?_
        refine o_call (mul_fn' (IntR.at (Mo.up f124)) (IntR.at (Mo.up f91)) e129) (fun v125 h126 s127 r128 => ?_)
        obtain ⟨g131, p132, n133, c134, rfl, f135⟩ := IntAt.op r128
        refine JL.nil ⟨rfl, inferInstance, inferInstance, ?_⟩
        refine JD.one 15 (by kernel_rfl) ?_
        refine JX.effB rfl rfl trivial ?_
        refine o_call (add_fn' (IntR.at (Mo.up f109)) (IntR.at (Mo.up f135)) e140) (fun v136 h137 s138 r139 => ?_)
        obtain ⟨g142, p143, n144, c145, rfl, f146⟩ := IntAt.op r139
        refine JL.nil ⟨rfl, inferInstance, inferInstance, ?_⟩
        refine JD.calc 16 (by kernel_rfl) rfl trivial ss_subB (q_ian rfl rfl hi95 (by rw [hn101]; exact hl96)) ?_
        refine JD.one 17 (by kernel_rfl) ?_
        refine JX.mut rfl rfl trivial ?_
        refine o_stO0 (us1 := [_, _]) (ps := [_, _]) (a := y141) Sz.i rfl rfl rfl rfl (OwnC.mono oc100) inferInstance hl96 hk103 rfl (Nat.le_of_ble_eq_true rfl) rfl (Mo.up f146) (setL_eq hi95) (fun cs147 oc148 => ?_)
        refine JL.nil ⟨rfl, ?_⟩
        refine JD.done (by kernel_rfl) ?_ _
        --
        refine J.region ?_
        refine o_q (q_add rfl rfl (wi64 k81)) ?_
        first | refine o_q (q_mvv (v := .int _ _) rfl) ?_ | refine o_q (q_mv) ?_
        refine JL.nil ?_
        replace hm := inl_onward hm hk76
        exact ⟨⟨i71 + 1, (setL v64 x78.Col y141), (some ⟨b98, 0, none⟩), n66, c67, [(b98, row 37 cs147)]⟩, rfl, ⟨rfl, rfl, rfl, rfl, rfl, rfl, rfl, trivial⟩, ⟨rfl, rfl, trivial⟩, ⟨(OwnC.own (OwnC.mono oc148) (setL_hn hn101)), hm, inferInstance⟩, (muL hl79), inferInstance⟩
      ·
        replace hm := forL_nil c77 hm
        unfold M.sparse_Times_k1 at hm
        refine J.condF rfl (decide_eq_false c77) ?_
        refine J.exit ?_
        refine J.region ?_
        refine o_q (q_add rfl rfl (wi64 k54)) ?_
        first | refine o_q (q_mvv (v := .int _ _) rfl) ?_ | refine o_q (q_mv) ?_
        refine JL.nil ?_
        replace hm := inl_onward hm hk49
        exact ⟨⟨i44 + 1, v64, p65, n66, c67, L69⟩, rfl, ⟨rfl, rfl, rfl, trivial⟩, ⟨rfl, rfl, trivial⟩, ⟨(OwnL.mono f68), hm, inferInstance⟩, (muL hl52), inferInstance⟩
    ·
      replace hm := forL_nil c50 hm
      unfold M.sparse_Times_k2 at hm
      refine J.condF rfl (decide_eq_false c50) ?_
      refine J.exit ?_
      refine J.seq ?_
      refine J.region ?_
      first | refine o_q (q_mvv (v := .slice _ _ _) rfl) ?_ | refine o_q (q_mv) ?_
      first | refine o_q (q_asv (v := .slice _ _ _) rfl) ?_ | refine o_q (q_as) ?_
      first | refine o_q (q_asv (v := .int _ _) rfl) ?_ | refine o_q (q_as) ?_
      refine JL.nil ?_
      refine J.fzO (R := IntR) (OwnL.mono f41) (fun h149 s150 f151 => ?_)
      refine J.ret ?_
      obtain rfl := Option.some.inj hm
      exact ret_ok (fn := Try.f31) rfl (.tmp rfl (.tmp rfl .nil)) ⟨_, _, rfl, (Sls.mono f151), rfl⟩
  ·
    replace hm := ite_F c30 hm
    refine J.condT rfl (decide_eq_true c30) ?_
    refine J.seq ?_
    refine J.region ?_
    first | refine o_q (q_asv (v := .slice _ _ _) rfl) ?_ | refine o_q (q_as) ?_
    first | refine o_q (q_asv (v := .int _ _) rfl) ?_ | refine o_q (q_as) ?_
    refine JL.nil ?_
    refine J.ret ?_
    obtain rfl := Option.some.inj hm
    exact ret_ok (fn := Try.f31) rfl (.tmp rfl (.tmp rfl .nil)) ⟨_, _, rfl, ((Sls.nil (R := IntR) (sz := 2) _)), rfl⟩
set_option maxHeartbeats 4000000 in
theorem sparse_combined_fn {h : Heap} {x0 : List TTerm} {x1 : TSparse} {v0 : Value} {v1 : Value} (r0 : Sls TTermR 3 h v0 x0) (r1 : AggV TSparseR h v1 x1) {r : (List TTerm)} (hm : M.sparse_combined x0 x1 = some r) :
    Fn Try.prog 59 #[v0, v1] h fun v h' => Sls TTermR 3 h' v r := by
  obtain ⟨p21, n22, c23, rfl, f24⟩ := Sls.op3 r0
  obtain ⟨_, rfl, p25, n26, c27, rfl, f28⟩ := r1
  refine Fn.intro (args := [_, _]) Try.func59 rfl rfl (Nat.le_of_ble_eq_true rfl) fun w => ?_
  unfold M.sparse_combined at hm
  refine J.seq ?_
  refine J.region ?_
  first | refine o_bx (v := .agg ⟨[.int _ _, .int _ _, .slice _ _ _]⟩) rfl rfl (fun b29 => ?_) | refine o_bx rfl rfl (fun b29 => ?_)
  first | refine o_q (q_asv (v := .slice _ _ _) rfl) ?_ | refine o_q (q_as) ?_
  refine JL.nil ?_
  refine J.seq ?_
  refine J.region ?_
  refine o_mkMap (VR := IntAt) (fun b30 o31 mr32 => ?_)
  first | refine o_q (q_asv (v := .map _) rfl) ?_ | refine o_q (q_as) ?_
  refine JL.nil ?_
  refine J.seq ?_
  refine J.seq ?_
  refine J.region ?_
  first | refine o_q (q_mvv (v := .slice _ _ _) rfl) ?_ | refine o_q (q_mv) ?_
  refine o_q (q_lenE (k := x0.length) rfl (Sls.len f24)) ?_
  first | refine o_q (q_mvv (v := .int _ _) rfl) ?_ | refine o_q (q_mv) ?_
  refine JL.nil ?_
  refine J.block ?_
  obtain ⟨hl38, hm⟩ := rngL_some hm
  refine J.loopK (α := Nat × (List (Int × Int)) × Obj) (fun ⟨i37, v33, o35⟩ h' L' => MapR IntAt h' o35 v33 ∧ forL (M.sparse_combined_b3 x1) M.sparse_combined_k3 (List.drop i37 x0) i37 v33 = some r ∧ Sp ([(b30, o35)] ++ ([(b29, row 24 [.int .i64 x1.Rows, .int .i64 x1.Cols, .slice p25 n26 c27])])) L') [(3, .pointer _), (14, .slice _ _ _), (15, .int _ _)] ⟨rfl, rfl, rfl, trivial⟩ (fun ⟨i37, v33, o35⟩ => [(5, .map (some b30)), (16, .int .i64 (i37 : Int))]) (fun ⟨i37, v33, o35⟩ => x0.length - i37) ⟨0, ([] : List (Int × Int)), o31⟩ ⟨(MapR.mono mr32), hm, inferInstance⟩ ⟨rfl, rfl, trivial⟩ ?_
  rintro ⟨i37, v33, o35⟩ σq39 hq39 Lq39 sq39 ⟨f34, hm, hspq39⟩
  refine J.sp hspq39 ?_
  refine J.seq ?_
  refine J.region ?_
  refine o_q (q_lss rfl rfl) ?_
  refine JL.nil ?_
  refine J.seq ?_
  by_cases c43 : (i37 : Int) < (x0.length : Int)
  ·
    obtain ⟨x44, o41, hl45, hx46, hm, hk42⟩ := forL_cons c43 hm
    unfold M.sparse_combined_b3 at hm
    refine J.condT rfl (decide_eq_true c43) ?_
    have k47 : -9223372036854775808 ≤ (i37 : Int) + 1 ∧ (i37 : Int) + 1 ≤ 9223372036854775807 := by omega
    refine J.skip ?_
    refine J.seq ?_
    refine J.block ?_
    refine J.seq ?_
    obtain ⟨b48, o49, rfl⟩ := Sls.op f24 hl45
    obtain ⟨us50, hc51, hR52⟩ := Sls.at f24 hx46
    obtain ⟨g53, p54, n55, c56, rfl, f57⟩ := hR52
    refine J.region ?_
    refine o_q (q_ian rfl rfl rfl (by first | exact hl45 | (rw [Sls.len f24]; exact hl45))) ?_
    refine o_q (q_ldfa rfl hc51) ?_
    refine o_al (fun b58 => ?_)
    first | refine o_stc (vs := [.int _ _, .bool _, .slice _ _ _]) (l' := [.int _ _, .bool _, .slice _ _ _]) rfl rfl rfl rfl rfl inferInstance rfl rfl ?_ | refine o_stc (vs := [_, _, _]) (l' := [_, _, _]) rfl rfl rfl rfl rfl inferInstance rfl rfl ?_
    refine JL.nil ?_
    refine J.seq ?_
    obtain ⟨i60, x59, hi61, hl62, hx63, hm⟩ := nth_some hm
    obtain ⟨b64, o65, rfl⟩ := Sls.op f28 hl62
    obtain ⟨us66, hc67, hR68⟩ := Sls.at f28 hx63
    obtain ⟨p69, n70, c71, rfl, f72⟩ := hR68
    refine J.region ?_
    refine o_q (q_fa rfl) ?_
    refine o_q (q_ld rfl inferInstance rfl) ?_
    refine o_q (q_fa rfl) ?_
    refine o_q (q_ld rfl inferInstance rfl) ?_
    refine o_q (q_ian rfl rfl hi61 (by first | exact hl62 | (rw [Sls.len f28]; exact hl62))) ?_
    refine o_q (q_ldf rfl hc67) ?_
    refine o_q (q_lenE (k := x59.length) rfl (Sls.len f72)) ?_
    first | refine o_q (q_mvv (v := .int _ _) rfl) ?_ | refine o_q (q_mv) ?_
    refine JL.nil ?_
    refine J.block ?_
    obtain ⟨hl78, hm⟩ := rngL_some hm
    refine J.loopK (α := Nat × (List (Int × Int)) × Obj) (fun ⟨i77, v73, o75⟩ h' L' => MapR IntAt h' o75 v73 ∧ forL (M.sparse_combined_b1 x44) M.sparse_combined_k1 (List.drop i77 x59) i77 v73 = some o41 ∧ Sp ([(b30, o75)] ++ ([(b29, row 24 [.int .i64 x1.Rows, .int .i64 x1.Cols, .slice (some ⟨b64, o65, none⟩) n26 c27]), (b58, row 71 [.int .i64 x44.Col, .bool g53, .slice p54 n55 c56])])) L') [(3, .pointer _), (7, .pointer _), (14, .slice _ _ _), (15, .int _ _), (16, .int _ _), (25, .slice _ _ _), (26, .int _ _)] ⟨rfl, rfl, rfl, rfl, rfl, rfl, rfl, trivial⟩ (fun ⟨i77, v73, o75⟩ => [(5, .map (some b30)), (27, .int .i64 (i77 : Int))]) (fun ⟨i77, v73, o75⟩ => x59.length - i77) ⟨0, v33, o35⟩ ⟨(MapR.mono f34), hm, inferInstance⟩ ⟨rfl, rfl, trivial⟩ ?_
    rintro ⟨i77, v73, o75⟩ σq79 hq79 Lq79 sq79 ⟨f74, hm, hspq79⟩
    refine J.sp hspq79 ?_
    refine J.seq ?_
    refine J.region ?_
    refine o_q (q_lss rfl rfl) ?_
    refine JL.nil ?_
    refine J.seq ?_
    by_cases c83 : (i77 : Int) < (x59.length : Int)
    ·
      obtain ⟨x84, o81, hl85, hx86, hm, hk82⟩ := forL_cons c83 hm
      unfold M.sparse_combined_b1 at hm
      refine J.condT rfl (decide_eq_true c83) ?_
      have k87 : -9223372036854775808 ≤ (i77 : Int) + 1 ∧ (i77 : Int) + 1 ≤ 9223372036854775807 := by omega
      refine J.skip ?_
      refine J.seq ?_
      refine J.block ?_
      refine J.seq ?_
      obtain ⟨b88, o89, rfl⟩ := Sls.op f72 hl85
      obtain ⟨us90, hc91, hR92⟩ := Sls.at f72 hx86
      obtain ⟨g93, p94, n95, c96, rfl, f97⟩ := hR92
      refine J.region ?_
      refine o_q (q_ian rfl rfl rfl (by first | exact hl85 | (rw [Sls.len f72]; exact hl85))) ?_
      refine o_q (q_ldfa rfl hc91) ?_
      refine o_al (fun b98 => ?_)
      first | refine o_stc (vs := [.int _ _, .bool _, .slice _ _ _]) (l' := [.int _ _, .bool _, .slice _ _ _]) rfl rfl rfl rfl rfl inferInstance rfl rfl ?_ | refine o_stc (vs := [_, _, _]) (l' := [_, _, _]) rfl rfl rfl rfl rfl inferInstance rfl rfl ?_
      refine JL.nil ?_
      obtain ⟨v99, hv100, hl101⟩ := MapR.look f74 x84.Col (show IntAt _ (.agg ⟨[.bool false, .slice none 0 0]⟩) 0 from (IntR.at (IntR.zero0 _)))
      obtain ⟨g102, p103, n104, c105, rfl, f106⟩ := IntAt.op hv100
      obtain ⟨y112, e111, hm⟩ := bnd_some hm
      obtain ⟨y123, e122, hm⟩ := bnd_some hm
      refine J.drawB [b98, b30, b58] [13] ?_
      first | refine JD.calc 0 (by kernel_rfl) rfl trivial ss_subB (q_mvv (v := .map _) rfl) ?_ | refine JD.calc 0 (by kernel_rfl) rfl trivial ss_subB (q_mv) ?_
      refine JD.calc 1 (by kernel_rfl) rfl trivial ss_subB (q_fa rfl) ?_
      refine JD.loadB 2 (by kernel_rfl) rfl trivial (q_ld rfl inferInstance rfl) ?_
      first | refine JD.calc 3 (by kernel_rfl) rfl trivial ss_subB (q_mvv (v := .map _) rfl) ?_ | refine JD.calc 3 (by kernel_rfl) rfl trivial ss_subB (q_mv) ?_
      refine JD.calc 4 (by kernel_rfl) rfl trivial ss_subB (q_fa rfl) ?_
      refine JD.loadB 5 (by kernel_rfl) rfl trivial (q_ld rfl inferInstance rfl) ?_
      refine JD.loadB 6 (by kernel_rfl) rfl trivial (q_look rfl rfl inferInstance hl101) ?_
      refine JD.calc 7 (by kernel_rfl) rfl trivial ss_subB (q_fa rfl) ?_
      refine JD.loadB 8 (by kernel_rfl) rfl trivial (q_lda (vs := [_, _]) rfl inferInstance ⟨rfl, rfl, trivial⟩) ?_
      refine JD.calc 9 (by kernel_rfl) rfl trivial ss_subB (q_fa rfl) ?_
      refine JD.loadB 10 (by kernel_rfl) rfl trivial (q_lda (vs := [_, _]) rfl inferInstance ⟨rfl, rfl, trivial⟩) ?_
      refine JD.one 11 (by kernel_rfl) ?_
      refine JX.effB rfl rfl trivial ?_
      refine o_call (mul_fn' (IntR.at (Mo.up f57)) (IntR.at (Mo.up f97)) e111) (fun v107 h108 s109 r110 => ?_)
      obtain ⟨g113, p114, n115, c116, rfl, f117⟩ := IntAt.op r110
      refine JL.nil ⟨rfl, inferInstance, inferInstance, ?_⟩
      refine JD.one 12 (by kernel_rfl) ?_
      refine JX.effB rfl rfl trivial ?_
      refine o_call (add_fn' (IntR.at (Mo.up f106)) (IntR.at (Mo.up f117)) e122) (fun v118 h119 s120 r121 => ?_)
      obtain ⟨g124, p125, n126, c127, rfl, f128⟩ := IntAt.op r121
      refine JL.nil ⟨rfl, inferInstance, inferInstance, ?_⟩
      refine JD.one 13 (by kernel_rfl) ?_
      refine JX.mut rfl rfl trivial ?_
      refine o_mapPut (VR := IntAt) (a := y123) rfl rfl rfl inferInstance (MapR.mono f74) (IntR.at (Mo.up f128)) (fun o129 mr130 => ?_)
      refine JL.nil ⟨rfl, ?_⟩
      refine JD.done (by kernel_rfl) ?_ _
      --
      refine J.region ?_
      refine o_q (q_add rfl rfl (wi64 k87)) ?_
      first | refine o_q (q_mvv (v := .int _ _) rfl) ?_ | refine o_q (q_mv) ?_
      refine JL.nil ?_
      replace hm := inl_onward hm hk82
      exact ⟨⟨i77 + 1, (mput v73 x84.Col y123), o129⟩, rfl, ⟨rfl, rfl, rfl, rfl, rfl, rfl, rfl, trivial⟩, ⟨rfl, rfl, trivial⟩, ⟨(MapR.mono mr130), hm, inferInstance⟩, (muL hl85), inferInstance⟩
    ·
      replace hm := forL_nil c83 hm
      unfold M.sparse_combined_k1 at hm
      refine J.condF rfl (decide_eq_false c83) ?_
      refine J.exit ?_
      refine J.region ?_
      refine o_q (q_add rfl rfl (wi64 k47)) ?_
      first | refine o_q (q_mvv (v := .int _ _) rfl) ?_ | refine o_q (q_mv) ?_
      refine JL.nil ?_
      replace hm := inl_onward hm hk42
      exact ⟨⟨i37 + 1, v73, o75⟩, rfl, ⟨rfl, rfl, rfl, trivial⟩, ⟨rfl, rfl, trivial⟩, ⟨(MapR.mono f74), hm, inferInstance⟩, (muL hl45), inferInstance⟩
  ·
    replace hm := forL_nil c43 hm
    unfold M.sparse_combined_k3 at hm
    refine J.condF rfl (decide_eq_false c43) ?_
    refine J.exit ?_
    refine J.seq ?_
    refine J.region ?_
    first | refine o_q (q_asv (v := .slice _ _ _) rfl) ?_ | refine o_q (q_as) ?_
    refine JL.nil ?_
    refine J.seq ?_
    refine J.seq ?_
    refine J.fzM b30 (MapR.mono f34) (fun h131 s132 f133 => ?_)
    obtain ⟨l138, e139, hm⟩ := bnd_some hm
    refine J.region ?_
    first | refine o_q (q_mvv (v := .map _) rfl) ?_ | refine o_q (q_mv) ?_
    refine o_call (keys_fn (VR := IntAt) (MapF.mono f133)) (fun v134 h135 s136 kv137 => ?_)
    refine o_call (sorted_fn (VR := IntAt) (KeysV.mono kv137) e139) (fun v140 h141 s142 r143 => ?_)
    obtain ⟨p144, n145, c146, rfl, f147⟩ := Sls.op3 r143
    refine o_q (q_lenE (k := l138.length) rfl (Sls.len f147)) ?_
    first | refine o_q (q_mvv (v := .int _ _) rfl) ?_ | refine o_q (q_mv) ?_
    refine JL.nil ?_
    refine J.block ?_
    obtain ⟨hl156, hm⟩ := rngL_some hm
    refine J.loopK (α := Nat × (List TTerm) × (Option Addr) × Nat × Nat × Own) (fun ⟨i155, v148, p149, n150, c151, L153⟩ h' L' => OwnL TTermR 71 3 h' (.slice p149 n150 c151) v148 L153 ∧ forL (M.sparse_combined_b2 v33) M.sparse_combined_k2 (List.drop i155 l138) i155 v148 = some r ∧ Sp (L153 ++ ([])) L') [(5, .map _), (48, .slice _ _ _), (49, .int _ _)] ⟨rfl, rfl, rfl, trivial⟩ (fun ⟨i155, v148, p149, n150, c151, L153⟩ => [(10, .slice p149 n150 c151), (50, .int .i64 (i155 : Int))]) (fun ⟨i155, v148, p149, n150, c151, L153⟩ => l138.length - i155) ⟨0, ([] : List TTerm), none, 0, 0, []⟩ ⟨(OwnL.nil _), hm, inferInstance⟩ ⟨rfl, rfl, trivial⟩ ?_
    rintro ⟨i155, v148, p149, n150, c151, L153⟩ σq157 hq157 Lq157 sq157 ⟨f152, hm, hspq157⟩
    refine J.sp hspq157 ?_
    refine J.seq ?_
    refine J.region ?_
    refine o_q (q_lss rfl rfl) ?_
    refine JL.nil ?_
    refine J.seq ?_
    by_cases c161 : (i155 : Int) < (l138.length : Int)
    ·
      obtain ⟨x162, o159, hl163, hx164, hm, hk160⟩ := forL_cons c161 hm
      unfold M.sparse_combined_b2 at hm
      refine J.condT rfl (decide_eq_true c161) ?_
      have k165 : -9223372036854775808 ≤ (i155 : Int) + 1 ∧ (i155 : Int) + 1 ≤ 9223372036854775807 := by omega
      refine J.skip ?_
      refine J.seq ?_
      refine J.block ?_
      refine J.seq ?_
      obtain ⟨b166, o167, rfl⟩ := Sls.op f147 hl163
      obtain ⟨us168, hc169, hR170⟩ := Sls.at f147 hx164
      obtain rfl := KR.op hR170
      refine J.region ?_
      refine o_q (q_ian rfl rfl rfl (by first | exact hl163 | (rw [Sls.len f147]; exact hl163))) ?_
      refine o_q (q_ldf rfl hc169) ?_
      first | refine o_q (q_asv (v := .int _ _) rfl) ?_ | refine o_q (q_as) ?_
      refine JL.nil ?_
      refine J.seq ?_
      obtain ⟨v171, hv172, hl173⟩ := MapF.look f133 x162 (show IntAt _ (.agg ⟨[.bool false, .slice none 0 0]⟩) 0 from (IntR.at (IntR.zero0 _)))
      obtain ⟨g174, p175, n176, c177, rfl, f178⟩ := IntAt.op hv172
      obtain ⟨y184, e183, hm⟩ := bnd_some hm
      refine J.region ?_
      first | refine o_q (q_mvv (v := .map _) rfl) ?_ | refine o_q (q_mv) ?_
      first | refine o_q (q_mvv (v := .int _ _) rfl) ?_ | refine o_q (q_mv) ?_
      refine o_q (q_lookF rfl rfl hl173) ?_
      refine o_call (sign_fn' (IntR.at (Mo.up f178)) e183) (fun v179 h180 s181 r182 => ?_)
      obtain rfl := (show _ = _ from r182)
      refine o_q (q_neq rfl rfl) ?_
      refine JL.nil ?_
      by_cases c185 : y184 = 0
      ·
        replace hm := ite_T c185 hm
        refine J.condF rfl (decide_eq_false (fun z => z c185)) ?_
        refine J.skip ?_
        refine J.region ?_
        refine o_q (q_add rfl rfl (wi64 k165)) ?_
        first | refine o_q (q_mvv (v := .int _ _) rfl) ?_ | refine o_q (q_mv) ?_
        refine JL.nil ?_
        replace hm := inl_onward hm hk160
        exact ⟨⟨i155 + 1, v148, p149, n150, c151, L153⟩, rfl, ⟨rfl, rfl, rfl, trivial⟩, ⟨rfl, rfl, trivial⟩, ⟨(OwnL.mono f152), hm, inferInstance⟩, (muL hl163), inferInstance⟩
      ·
        replace hm := ite_F c185 hm
        refine J.condT rfl (decide_eq_true c185) ?_
        obtain ⟨v186, hv187, hl188⟩ := MapF.look f133 x162 (show IntAt _ (.agg ⟨[.bool false, .slice none 0 0]⟩) 0 from (IntR.at (IntR.zero0 _)))
        obtain ⟨g189, p190, n191, c192, rfl, f193⟩ := IntAt.op hv187
        obtain ⟨l197, e198, hm⟩ := bnd_some hm
        refine J.region ?_
        first | refine o_q (q_mvv (v := .slice _ _ _) rfl) ?_ | refine o_q (q_mv) ?_
        first | refine o_q (q_mvv (v := .int _ _) rfl) ?_ | refine o_q (q_mv) ?_
        first | refine o_q (q_mvv (v := .map _) rfl) ?_ | refine o_q (q_mv) ?_
        first | refine o_q (q_mvv (v := .int _ _) rfl) ?_ | refine o_q (q_mv) ?_
        refine o_q (q_lookF rfl rfl hl188) ?_
        first | refine o_q (q_bd [.int _ _, .bool _, .slice _ _ _] rfl) ?_ | refine o_q (q_bd [_, _, _] rfl) ?_
        first | refine o_bs [.int _ _, .bool _, .slice _ _ _] (by decide) rfl (fun b194 => ?_) | refine o_bs [_, _, _] (by decide) rfl (fun b194 => ?_)
        refine JL.fact (fun h => Cells TTermR 3 h [.int .i64 x162, .bool g189, .slice p190 n191 c192] [(TTerm.mk x162 (mget v33 x162 0))]) (show Cells TTermR 3 _ [.int .i64 x162, .bool g189, .slice p190 n191 c192] [(TTerm.mk x162 (mget v33 x162 0))] from (Cells.cons (R := TTermR) (us := [.int .i64 x162, .bool g189, .slice p190 n191 c192]) rfl ⟨_, _, _, _, rfl, (Mo.up f193)⟩ Cells.nil)) (fun hc195 => ?_)
        refine JL.fact (fun h => OwnL TTermR 71 3 h (.slice (some ⟨b194, 0, none⟩) 1 1) [(TTerm.mk x162 (mget v33 x162 0))] [(b194, row 71 [.int .i64 x162, .bool g189, .slice p190 n191 c192])]) (OwnL.lit _ rfl hc195 rfl) (fun ho196 => ?_)
        refine o_appB (R := TTermR) rfl rfl (OwnL.mono f152) inferInstance hc195 e198 (fun p199 c200 L201 ho202 => ?_)
        first | refine o_q (q_asv (v := .slice _ _ _) rfl) ?_ | refine o_q (q_as) ?_
        refine JL.nil ?_
        refine J.region ?_
        refine o_q (q_add rfl rfl (wi64 k165)) ?_
        first | refine o_q (q_mvv (v := .int _ _) rfl) ?_ | refine o_q (q_mv) ?_
        refine JL.nil ?_
        replace hm := inl_onward hm hk160
        exact ⟨⟨i155 + 1, l197, p199, l197.length, c200, L201⟩, rfl, ⟨rfl, rfl, rfl, trivial⟩, ⟨rfl, rfl, trivial⟩, ⟨(OwnL.mono ho202), hm, inferInstance⟩, (muL hl163), inferInstance⟩
    ·
      replace hm := forL_nil c161 hm
      unfold M.sparse_combined_k2 at hm
      refine J.condF rfl (decide_eq_false c161) ?_
      refine J.exit ?_
      refine J.seq ?_
      refine J.region ?_
      first | refine o_q (q_mvv (v := .slice _ _ _) rfl) ?_ | refine o_q (q_mv) ?_
      first | refine o_q (q_asv (v := .slice _ _ _) rfl) ?_ | refine o_q (q_as) ?_
      refine JL.nil ?_
      refine J.fzO (R := TTermR) (OwnL.mono f152) (fun h203 s204 f205 => ?_)
      refine J.ret ?_
      obtain rfl := Option.some.inj hm
      exact ret_ok (fn := Try.f59) rfl (.tmp rfl .nil) (Sls.mono f205)
set_option maxHeartbeats 4000000 in
theorem sparse_Mul_fn {h : Heap} {x0 : TSparse} {x1 : TSparse} {v0 : Value} {v1 : Value} (r0 : AggV TSparseR h v0 x0) (r1 : AggV TSparseR h v1 x1) {r : TSparse × Int} (hm : M.sparse_Mul x0 x1 = some r) :
    Fn Try.prog 29 #[v0, v1] h fun v h' => ∃ u0 u1, v = .tuple ⟨[u0, u1]⟩ ∧ AggV TSparseR h' u0 r.1 ∧ u1 = .int .i64 r.2 := by
  obtain ⟨_, rfl, p21, n22, c23, rfl, f24⟩ := r0
  obtain ⟨_, rfl, p25, n26, c27, rfl, f28⟩ := r1
  refine Fn.intro (args := [_, _]) Try.func29 rfl rfl (Nat.le_of_ble_eq_true rfl) fun w => ?_
  unfold M.sparse_Mul at hm
  refine J.seq ?_
  refine J.region ?_
  first | refine o_bx (v := .agg ⟨[.int _ _, .int _ _, .slice _ _ _]⟩) rfl rfl (fun b29 => ?_) | refine o_bx rfl rfl (fun b29 => ?_)
  first | refine o_bx (v := .agg ⟨[.int _ _, .int _ _, .slice _ _ _]⟩) rfl rfl (fun b30 => ?_) | refine o_bx rfl rfl (fun b30 => ?_)
  refine o_al (fun b31 => ?_)
  first | refine o_q (q_asv (v := .int _ _) rfl) ?_ | refine o_q (q_as) ?_
  refine JL.nil ?_
  refine J.seq ?_
  refine J.seq ?_
  refine J.region ?_
  refine o_q (q_fa rfl) ?_
  refine o_q (q_ld rfl inferInstance rfl) ?_
  refine o_q (q_fa rfl) ?_
  refine o_q (q_ld rfl inferInstance rfl) ?_
  refine o_q (q_neq rfl rfl) ?_
  refine JL.nil ?_
  by_cases c32 : x0.Cols = x1.Rows
  ·
    replace hm := ite_T c32 hm
    refine J.condF rfl (decide_eq_false (fun z => z c32)) ?_
    refine J.skip ?_
    refine J.seq ?_
    refine J.region ?_
    refine o_q (q_fa rfl) ?_
    refine o_q (q_ld rfl inferInstance rfl) ?_
    refine o_q (q_fa rfl) ?_
    refine o_q (q_ld rfl inferInstance rfl) ?_
    first | refine o_q (q_bd [.int _ _, .int _ _, .slice _ _ _] rfl) ?_ | refine o_q (q_bd [_, _, _] rfl) ?_
    refine o_al (fun b33 => ?_)
    first | refine o_stc (vs := [.int _ _, .int _ _, .slice _ _ _]) (l' := [.int _ _, .int _ _, .slice _ _ _]) rfl rfl rfl rfl rfl inferInstance rfl rfl ?_ | refine o_stc (vs := [_, _, _]) (l' := [_, _, _]) rfl rfl rfl rfl rfl inferInstance rfl rfl ?_
    refine JL.nil ?_
    refine J.seq ?_
    refine J.seq ?_
    refine J.region ?_
    refine o_q (q_fa rfl) ?_
    refine o_q (q_ld rfl inferInstance rfl) ?_
    refine o_q (q_lenE (k := x0.L.length) rfl (Sls.len f24)) ?_
    first | refine o_q (q_mvv (v := .int _ _) rfl) ?_ | refine o_q (q_mv) ?_
    refine JL.nil ?_
    refine J.block ?_
    obtain ⟨hl42, hm⟩ := rngL_some hm
    refine J.loopK (α := Nat × (List (List TTerm)) × (Option Addr) × Nat × Nat × Own) (fun ⟨i41, v34, p35, n36, c37, L39⟩ h' L' => OwnL (LR TTermR 3) 26 1 h' (.slice p35 n36 c37) v34 L39 ∧ forL (M.sparse_Mul_b1 x1) (M.sparse_Mul_k1 x0 x1) (List.drop i41 x0.L) i41 v34 = some r ∧ Sp (L39 ++ ([(b30, row 24 [.int .i64 x1.Rows, .int .i64 x1.Cols, .slice p25 n26 c27]), (b31, row 24 [.int .i64 0, .int .i64 0, .slice none 0 0]), (b33, row 24 [.int .i64 x0.Rows, .int .i64 x1.Cols, .slice p35 n36 c37])])) L') [(3, .pointer _), (4, .pointer _), (6, .pointer _), (21, .slice _ _ _), (22, .int _ _)] ⟨rfl, rfl, rfl, rfl, rfl, trivial⟩ (fun ⟨i41, v34, p35, n36, c37, L39⟩ => [(23, .int .i64 (i41 : Int))]) (fun ⟨i41, v34, p35, n36, c37, L39⟩ => x0.L.length - i41) ⟨0, ([] : List (List TTerm)), none, 0, 0, []⟩ ⟨(OwnL.nil _), hm, inferInstance⟩ ⟨rfl, trivial⟩ ?_
    rintro ⟨i41, v34, p35, n36, c37, L39⟩ σq43 hq43 Lq43 sq43 ⟨f38, hm, hspq43⟩
    refine J.sp hspq43 ?_
    refine J.seq ?_
    refine J.region ?_
    refine o_q (q_lss rfl rfl) ?_
    refine JL.nil ?_
    refine J.seq ?_
    by_cases c47 : (i41 : Int) < (x0.L.length : Int)
    ·
      obtain ⟨x48, o45, hl49, hx50, hm, hk46⟩ := forL_cons c47 hm
      unfold M.sparse_Mul_b1 at hm
      refine J.condT rfl (decide_eq_true c47) ?_
      have k51 : -9223372036854775808 ≤ (i41 : Int) + 1 ∧ (i41 : Int) + 1 ≤ 9223372036854775807 := by omega
      refine J.skip ?_
      refine J.seq ?_
      refine J.block ?_
      refine J.seq ?_
      obtain ⟨b52, o53, rfl⟩ := Sls.op f24 hl49
      obtain ⟨us54, hc55, hR56⟩ := Sls.at f24 hx50
      obtain ⟨p57, n58, c59, rfl, f60⟩ := hR56
      refine J.region ?_
      refine o_q (q_ian rfl rfl rfl (by first | exact hl49 | (rw [Sls.len f24]; exact hl49))) ?_
      refine o_q (q_ldf rfl hc55) ?_
      first | refine o_q (q_asv (v := .slice _ _ _) rfl) ?_ | refine o_q (q_as) ?_
      refine JL.nil ?_
      obtain ⟨y66, e65, hm⟩ := bnd_some hm
      obtain ⟨l74, e75, hm⟩ := bnd_some hm
      refine J.drawB [b33, b30] [8] ?_
      refine JD.calc 0 (by kernel_rfl) rfl trivial ss_subB (q_fa rfl) ?_
      refine JD.loadB 1 (by kernel_rfl) rfl trivial (q_ld rfl inferInstance rfl) ?_
      first | refine JD.calc 2 (by kernel_rfl) rfl trivial ss_subB (q_mvv (v := .slice _ _ _) rfl) ?_ | refine JD.calc 2 (by kernel_rfl) rfl trivial ss_subB (q_mv) ?_
      refine JD.loadB 3 (by kernel_rfl) rfl trivial (q_lda (vs := [_, _, _]) rfl inferInstance ⟨rfl, rfl, rfl, trivial⟩) ?_
      refine JD.one 4 (by kernel_rfl) ?_
      refine JX.effB rfl rfl trivial ?_
      refine o_call (sparse_combined_fn (Sls.mono f60) ⟨_, rfl, ⟨_, _, _, rfl, Sls.mono f28⟩⟩ e65) (fun v61 h62 s63 r64 => ?_)
      obtain ⟨p67, n68, c69, rfl, f70⟩ := Sls.op3 r64
      refine JL.nil ⟨rfl, inferInstance, inferInstance, ?_⟩
      refine JD.one 5 (by kernel_rfl) ?_
      refine JX.effB rfl rfl trivial ?_
      first | refine o_bs [.slice _ _ _] (by decide) rfl (fun b71 => ?_) | refine o_bs [_] (by decide) rfl (fun b71 => ?_)
      refine JL.fact (fun h => Cells (LR TTermR 3) 1 h [.slice p67 n68 c69] [y66]) (show Cells (LR TTermR 3) 1 _ [.slice p67 n68 c69] [y66] from (Cells.cons (R := (LR TTermR 3)) (us := [.slice p67 n68 c69]) rfl ⟨_, _, _, rfl, Sls.mono f70⟩ Cells.nil)) (fun hc72 => ?_)
      refine JL.fact (fun h => OwnL (LR TTermR 3) 26 1 h (.slice (some ⟨b71, 0, none⟩) 1 1) [y66] [(b71, row 26 [.slice p67 n68 c69])]) (OwnL.lit _ rfl hc72 rfl) (fun ho73 => ?_)
      refine JL.nil ⟨rfl, inferInstance, inferInstance, ?_⟩
      refine JD.one 6 (by kernel_rfl) ?_
      refine JX.effB rfl rfl trivial ?_
      refine o_appB (R := (LR TTermR 3)) rfl rfl (OwnL.mono f38) inferInstance hc72 e75 (fun p76 c77 L78 ho79 => ?_)
      refine JL.nil ⟨rfl, inferInstance, inferInstance, ?_⟩
      refine JD.calc 7 (by kernel_rfl) rfl trivial ss_subB (q_fa rfl) ?_
      refine JD.one 8 (by kernel_rfl) ?_
      refine JX.mut rfl rfl trivial ?_
      first | refine o_stc (vs := [.slice _ _ _]) (l' := [.int _ _, .int _ _, .slice _ _ _]) rfl rfl rfl rfl rfl inferInstance rfl rfl ?_ | refine o_stc (vs := [_]) (l' := [_, _, _]) rfl rfl rfl rfl rfl inferInstance rfl rfl ?_
      refine JL.nil ⟨rfl, ?_⟩
      refine JD.done (by kernel_rfl) ?_ _
      --
      refine J.region ?_
      refine o_q (q_add rfl rfl (wi64 k51)) ?_
      first | refine o_q (q_mvv (v := .int _ _) rfl) ?_ | refine o_q (q_mv) ?_
      refine JL.nil ?_
      replace hm := inl_onward hm hk46
      exact ⟨⟨i41 + 1, l74, p76, l74.length, c77, L78⟩, rfl, ⟨rfl, rfl, rfl, rfl, rfl, trivial⟩, ⟨rfl, trivial⟩, ⟨(OwnL.mono ho79), hm, inferInstance⟩, (muL hl49), inferInstance⟩
    ·
      replace hm := forL_nil c47 hm
      unfold M.sparse_Mul_k1 at hm
      refine J.condF rfl (decide_eq_false c47) ?_
      refine J.exit ?_
      refine J.seq ?_
      refine J.region ?_
      refine o_q (q_lda (vs := [_, _, _]) rfl inferInstance ⟨rfl, rfl, rfl, trivial⟩) ?_
      first | refine o_stc (vs := [.int _ _, .int _ _, .slice _ _ _]) (l' := [.int _ _, .int _ _, .slice _ _ _]) rfl rfl rfl rfl rfl inferInstance rfl rfl ?_ | refine o_stc (vs := [_, _, _]) (l' := [_, _, _]) rfl rfl rfl rfl rfl inferInstance rfl rfl ?_
      first | refine o_q (q_asv (v := .int _ _) rfl) ?_ | refine o_q (q_as) ?_
      refine JL.nil ?_
      refine J.fzO (R := (LR TTermR 3)) (OwnL.mono f38) (fun h80 s81 f82 => ?_)
      refine J.ret ?_
      obtain rfl := Option.some.inj hm
      exact ret_ok (fn := Try.f29) rfl (.agg rfl inferInstance inferInstance (.tmp rfl .nil)) ⟨_, _, rfl, ⟨_, rfl, ⟨_, _, _, rfl, Sls.mono f82⟩⟩, rfl⟩
  ·
    replace hm := ite_F c32 hm
    refine J.condT rfl (decide_eq_true c32) ?_
    refine J.seq ?_
    refine J.region ?_
    first | refine o_q (q_bd [.int _ _, .int _ _, .slice _ _ _] rfl) ?_ | refine o_q (q_bd [_, _, _] rfl) ?_
    first | refine o_stc (vs := [.int _ _, .int _ _, .slice _ _ _]) (l' := [.int _ _, .int _ _, .slice _ _ _]) rfl rfl rfl rfl rfl inferInstance rfl rfl ?_ | refine o_stc (vs := [_, _, _]) (l' := [_, _, _]) rfl rfl rfl rfl rfl inferInstance rfl rfl ?_
    first | refine o_q (q_asv (v := .int _ _) rfl) ?_ | refine o_q (q_as) ?_
    refine JL.nil ?_
    refine J.ret ?_
    obtain rfl := Option.some.inj hm
    exact ret_ok (fn := Try.f29) rfl (.agg rfl inferInstance inferInstance (.tmp rfl .nil)) ⟨_, _, rfl, ⟨_, rfl, ⟨_, _, _, rfl, (Sls.nil (R := (LR TTermR 3)) (sz := 1) _)⟩⟩, rfl⟩
end Go.Z
end
