/- Texts of ours, joined: L6RW. -/
import Derived.Test.YtjdfhlkpfjhjoaaX3
import Derived.Test.YtjdfhlkpfjhjoaaX1
import Derived.Test.YtjdfhlkpfjhjoaaX9
section
set_option linter.unusedSimpArgs false
set_option linter.unusedVariables false
/- Functions of the program return what their models compute; printed by wip/tools/gx.py. -/
set_option linter.unusedVariables false
set_option linter.unusedSimpArgs false
namespace Go.Z
open Go Go.RowKit Go.Proofs
set_option maxHeartbeats 4000000 in
theorem torsionref06_zero_fn {h : Heap}  {r : Int} (hm : M.torsionref06_zero  = some r) :
    Fn Try.prog 47 #[] h fun v h' => IntAt h' v r := by
  refine Fn.intro (args := []) Try.func47 rfl rfl (Nat.le_of_ble_eq_true rfl) fun w => ?_
  unfold M.torsionref06_zero at hm
  refine J.seq ?_
  refine J.region ?_
  refine o_al (fun b21 => ?_)
  refine JL.nil ?_
  refine J.seq ?_
  obtain ⟨y27, e26, hm⟩ := bnd_some hm
  refine J.region ?_
  refine o_call (rof_fn e26) (fun v22 h23 s24 r25 => ?_)
  obtain ⟨g28, p29, n30, c31, rfl, f32⟩ := IntAt.op r25
  first | refine o_stc (vs := [.bool _, .slice _ _ _]) (l' := [.bool _, .slice _ _ _]) rfl rfl rfl rfl rfl inferInstance rfl rfl ?_ | refine o_stc (vs := [_, _]) (l' := [_, _]) rfl rfl rfl rfl rfl inferInstance rfl rfl ?_
  refine JL.nil ?_
  refine J.ret ?_
  obtain rfl := Option.some.inj hm
  exact ret_ok (fn := Try.f47) rfl (.agg rfl inferInstance inferInstance .nil) (IntR.at (Mo.up f32))
set_option maxHeartbeats 4000000 in
theorem torsionref06_Sized_fn {h : Heap} {x0 : R06Raw} {x1 : Int} {x2 : Int} {v0 : Value} (r0 : AggV R06RawR h v0 x0) {r : TMat} (hm : M.torsionref06_Sized x0 x1 x2 = some r) :
    Fn Try.prog 28 #[v0, .int .i64 x1, .int .i64 x2] h fun v h' => AggV TMatR h' v r := by
  obtain ⟨_, rfl, p21, n22, c23, rfl, f24⟩ := r0
  refine Fn.intro (args := [_, _, _]) Try.func28 rfl rfl (Nat.le_of_ble_eq_true rfl) fun w => ?_
  unfold M.torsionref06_Sized at hm
  refine J.seq ?_
  refine J.region ?_
  first | refine o_bx (v := .agg ⟨[.int _ _, .int _ _, .slice _ _ _]⟩) rfl rfl (fun b25 => ?_) | refine o_bx rfl rfl (fun b25 => ?_)
  refine o_al (fun b26 => ?_)
  refine JL.nil ?_
  refine J.seq ?_
  refine J.region ?_
  first | refine o_q (q_mvv (v := .int _ _) rfl) ?_ | refine o_q (q_mv) ?_
  first | refine o_q (q_mvv (v := .int _ _) rfl) ?_ | refine o_q (q_mv) ?_
  first | refine o_q (q_bd [.int _ _, .int _ _, .slice _ _ _] rfl) ?_ | refine o_q (q_bd [_, _, _] rfl) ?_
  refine o_al (fun b27 => ?_)
  first | refine o_stc (vs := [.int _ _, .int _ _, .slice _ _ _]) (l' := [.int _ _, .int _ _, .slice _ _ _]) rfl rfl rfl rfl rfl inferInstance rfl rfl ?_ | refine o_stc (vs := [_, _, _]) (l' := [_, _, _]) rfl rfl rfl rfl rfl inferInstance rfl rfl ?_
  refine JL.nil ?_
  refine J.seq ?_
  refine J.seq ?_
  refine J.region ?_
  first | refine o_q (q_asv (v := .int _ _) rfl) ?_ | refine o_q (q_as) ?_
  refine JL.nil ?_
  refine J.block ?_
  obtain ⟨k41, hm⟩ := rngN_some hm
  refine J.loopK (α := Int × (List Int) × (List (List Int)) × (Option Addr) × Nat × Nat × (Option Addr) × Nat × Nat × Own) (fun ⟨i40, v28, v33, p29, n30, c31, p34, n35, c36, L38⟩ h' L' => Sls (KR .i8) 1 h' (.slice p29 n30 c31) v28 ∧ OwnL (LR IntR 2) 32 1 h' (.slice p34 n35 c36) v33 L38 ∧ 0 ≤ i40 ∧ forN (M.torsionref06_Sized_b3 x2) (M.torsionref06_Sized_k3 x1 x2) x1 i40 (v28, v33) = some r ∧ Sp (L38 ++ ([(b25, row 46 [.int .u8 x0.Rows, .int .u8 x0.Cols, .slice p29 n30 c31]), (b26, row 50 [.int .i64 0, .int .i64 0, .slice none 0 0]), (b27, row 50 [.int .i64 x1, .int .i64 x2, .slice p34 n35 c36])])) L') [(1, .int _ _), (2, .int _ _), (3, .pointer _), (6, .pointer _), (7, .pointer _)] ⟨rfl, rfl, rfl, rfl, rfl, trivial⟩ (fun ⟨i40, v28, v33, p29, n30, c31, p34, n35, c36, L38⟩ => [(8, .int .i64 i40)]) (fun ⟨i40, v28, v33, p29, n30, c31, p34, n35, c36, L38⟩ => (x1 - i40).toNat) ⟨0, x0.A, ([] : List (List Int)), p21, n22, c23, none, 0, 0, []⟩ ⟨(Sls.mono f24), (OwnL.nil _), Int.le_refl _, hm, inferInstance⟩ ⟨rfl, trivial⟩ ?_
  rintro ⟨i40, v28, v33, p29, n30, c31, p34, n35, c36, L38⟩ σq42 hq42 Lq42 sq42 ⟨f32, f37, hle43, hm, hspq42⟩
  refine J.sp hspq42 ?_
  refine J.seq ?_
  refine J.seq ?_
  refine J.region ?_
  first | refine o_q (q_mvv (v := .int _ _) rfl) ?_ | refine o_q (q_mv) ?_
  first | refine o_q (q_mvv (v := .int _ _) rfl) ?_ | refine o_q (q_mv) ?_
  refine o_q (q_lss rfl rfl) ?_
  refine JL.nil ?_
  by_cases c46 : i40 < x1
  ·
    obtain ⟨o44, hm, hk45⟩ := forN_lt c46 hm
    unfold M.torsionref06_Sized_b3 at hm
    refine J.condT rfl (decide_eq_true c46) ?_
    have k47 : -9223372036854775808 ≤ i40 + 1 ∧ i40 + 1 ≤ 9223372036854775807 := by omega
    refine J.skip ?_
    refine J.seq ?_
    refine J.block ?_
    refine J.seq ?_
    refine J.region ?_
    first | refine o_bs [] (by decide) rfl (fun b48 => ?_) | refine o_bs [] (by decide) rfl (fun b48 => ?_)
    refine JL.fact (fun h => Cells IntR 2 h [] ([] : List Int)) (show Cells IntR 2 _ [] ([] : List Int) from Cells.nil) (fun hc49 => ?_)
    refine JL.fact (fun h => OwnL IntR 37 2 h (.slice (some ⟨b48, 0, none⟩) 0 0) ([] : List Int) [(b48, row 37 [])]) (OwnL.lit _ rfl hc49 rfl) (fun ho50 => ?_)
    first | refine o_q (q_asv (v := .slice _ _ _) rfl) ?_ | refine o_q (q_as) ?_
    refine JL.nil ?_
    refine J.seq ?_
    refine J.seq ?_
    refine J.region ?_
    first | refine o_q (q_asv (v := .int _ _) rfl) ?_ | refine o_q (q_as) ?_
    refine JL.nil ?_
    refine J.block ?_
    obtain ⟨k64, hm⟩ := rngN_some hm
    refine J.loopK (α := Int × (List Int) × (List Int) × (Option Addr) × Nat × Nat × (Option Addr) × Nat × Nat × Own) (fun ⟨i63, v51, v56, p52, n53, c54, p57, n58, c59, L61⟩ h' L' => Sls (KR .i8) 1 h' (.slice p52 n53 c54) v51 ∧ OwnL IntR 37 2 h' (.slice p57 n58 c59) v56 L61 ∧ 0 ≤ i63 ∧ forN (M.torsionref06_Sized_b2 x2 i40) (M.torsionref06_Sized_k2 v33) x2 i63 (v51, v56) = some o44 ∧ Sp (L38 ++ (L61 ++ ([(b25, row 46 [.int .u8 x0.Rows, .int .u8 x0.Cols, .slice p52 n53 c54]), (b26, row 50 [.int .i64 0, .int .i64 0, .slice none 0 0]), (b27, row 50 [.int .i64 x1, .int .i64 x2, .slice p34 n35 c36])]))) L') [(1, .int _ _), (2, .int _ _), (3, .pointer _), (6, .pointer _), (7, .pointer _), (8, .int _ _)] ⟨rfl, rfl, rfl, rfl, rfl, rfl, trivial⟩ (fun ⟨i63, v51, v56, p52, n53, c54, p57, n58, c59, L61⟩ => [(9, .slice p57 n58 c59), (10, .int .i64 i63)]) (fun ⟨i63, v51, v56, p52, n53, c54, p57, n58, c59, L61⟩ => (x2 - i63).toNat) ⟨0, v28, ([] : List Int), p29, n30, c31, (some ⟨b48, 0, none⟩), 0, 0, [(b48, row 37 [])]⟩ ⟨(Sls.mono f32), (OwnL.mono ho50), Int.le_refl _, hm, inferInstance⟩ ⟨rfl, rfl, trivial⟩ ?_
    rintro ⟨i63, v51, v56, p52, n53, c54, p57, n58, c59, L61⟩ σq65 hq65 Lq65 sq65 ⟨f55, f60, hle66, hm, hspq65⟩
    refine J.sp hspq65 ?_
    refine J.seq ?_
    refine J.seq ?_
    refine J.region ?_
    first | refine o_q (q_mvv (v := .int _ _) rfl) ?_ | refine o_q (q_mv) ?_
    first | refine o_q (q_mvv (v := .int _ _) rfl) ?_ | refine o_q (q_mv) ?_
    refine o_q (q_lss rfl rfl) ?_
    refine JL.nil ?_
    by_cases c69 : i63 < x2
    ·
      obtain ⟨o67, hm, hk68⟩ := forN_lt c69 hm
      unfold M.torsionref06_Sized_b2 at hm
      refine J.condT rfl (decide_eq_true c69) ?_
      have k70 : -9223372036854775808 ≤ i63 + 1 ∧ i63 + 1 ≤ 9223372036854775807 := by omega
      refine J.skip ?_
      refine J.seq ?_
      refine J.block ?_
      refine J.seq ?_
      refine J.region ?_
      first | refine o_q (q_asv (v := .int _ _) rfl) ?_ | refine o_q (q_as) ?_
      refine JL.nil ?_
      refine J.seq ?_
      refine J.joinK (α := (List Int) × Int × (Option Addr) × Nat × Nat) (fun ⟨v72, v77, p73, n74, c75⟩ h' L' => Sls (KR .i8) 1 h' (.slice p73 n74 c75) v72 ∧ (M.torsionref06_Sized_j1 v56) v72 v77 = some o67 ∧ Sp (L38 ++ (L61 ++ ([(b25, row 46 [.int .u8 x0.Rows, .int .u8 x0.Cols, .slice p73 n74 c75]), (b26, row 50 [.int .i64 0, .int .i64 0, .slice none 0 0]), (b27, row 50 [.int .i64 x1, .int .i64 x2, .slice p34 n35 c36])]))) L') [(1, .int _ _), (2, .int _ _), (3, .pointer _), (6, .pointer _), (7, .pointer _), (8, .int _ _), (9, .slice _ _ _), (10, .int _ _)] ⟨rfl, rfl, rfl, rfl, rfl, rfl, rfl, rfl, trivial⟩ (fun ⟨v72, v77, p73, n74, c75⟩ => [(11, .int .i64 v77)]) ?_ ?_
      ·
        refine J.seq ?_
        obtain ⟨k105, hm⟩ := chk64_some hm
        obtain ⟨k106, hm⟩ := chk64_some hm
        refine J.region ?_
        first | refine o_q (q_mvv (v := .int _ _) rfl) ?_ | refine o_q (q_mv) ?_
        first | refine o_q (q_mvv (v := .int _ _) rfl) ?_ | refine o_q (q_mv) ?_
        refine o_q (q_mul rfl rfl (wi64 k105)) ?_
        first | refine o_q (q_mvv (v := .int _ _) rfl) ?_ | refine o_q (q_mv) ?_
        refine o_q (q_add rfl rfl (wi64 k106)) ?_
        refine o_q (q_fa rfl) ?_
        refine o_q (q_ld rfl inferInstance rfl) ?_
        refine o_q (q_lenE (k := v51.length) rfl (Sls.len f55)) ?_
        refine o_q (q_lss rfl rfl) ?_
        refine JL.nil ?_
        by_cases c107 : ((i40 * x2) + i63) < (v51.length : Int)
        ·
          replace hm := ite_T c107 hm
          refine J.condT rfl (decide_eq_true c107) ?_
          obtain ⟨i109, x108, hi110, hl111, hx112, hm⟩ := nth_some hm
          obtain ⟨b113, o114, rfl⟩ := Sls.op f55 hl111
          obtain ⟨us115, hc116, hR117⟩ := Sls.at f55 hx112
          obtain rfl := KR.op hR117
          obtain ⟨k118, hm⟩ := chk64_some hm
          refine J.region ?_
          refine o_q (q_fa rfl) ?_
          refine o_q (q_ld rfl inferInstance rfl) ?_
          first | refine o_q (q_mvv (v := .int _ _) rfl) ?_ | refine o_q (q_mv) ?_
          first | refine o_q (q_mvv (v := .int _ _) rfl) ?_ | refine o_q (q_mv) ?_
          refine o_q (q_mul rfl rfl (wi64 k105)) ?_
          first | refine o_q (q_mvv (v := .int _ _) rfl) ?_ | refine o_q (q_mv) ?_
          refine o_q (q_add rfl rfl (wi64 k106)) ?_
          refine o_q (q_ian rfl rfl hi110 (by first | exact hl111 | (rw [Sls.len f55]; exact hl111))) ?_
          refine o_q (q_ldf rfl hc116) ?_
          refine o_q (q_rem rfl rfl (by decide) rfl) ?_
          refine o_q (q_cv rfl (wi64 k118)) ?_
          first | refine o_q (q_asv (v := .int _ _) rfl) ?_ | refine o_q (q_as) ?_
          refine JL.nil ?_
          exact ⟨⟨v51, Int.tmod x108 10, (some ⟨b113, o114, none⟩), n53, c54⟩, rfl, ⟨rfl, rfl, rfl, rfl, rfl, rfl, rfl, rfl, trivial⟩, ⟨rfl, trivial⟩, ⟨(Sls.mono f55), hm, inferInstance⟩, inferInstance⟩
        ·
          replace hm := ite_F c107 hm
          refine J.condF rfl (decide_eq_false c107) ?_
          refine J.skip ?_
          exact ⟨⟨v51, 0, p52, n53, c54⟩, rfl, ⟨rfl, rfl, rfl, rfl, rfl, rfl, rfl, rfl, trivial⟩, ⟨rfl, trivial⟩, ⟨(Sls.mono f55), hm, inferInstance⟩, inferInstance⟩
      ·
        rintro ⟨v72, v77, p73, n74, c75⟩ σq78 hq78 Lq78 sq78 ⟨f76, hm, hspq78⟩
        refine J.sp hspq78 ?_
        unfold M.torsionref06_Sized_j1 at hm
        obtain ⟨y90, e89, hm⟩ := bnd_some hm
        obtain ⟨l99, e100, hm⟩ := bnd_some hm
        refine J.region ?_
        first | refine o_q (q_mvv (v := .slice _ _ _) rfl) ?_ | refine o_q (q_mv) ?_
        first | refine o_q (q_mvv (v := .int _ _) rfl) ?_ | refine o_q (q_mv) ?_
        refine o_call (rof_fn e89) (fun v85 h86 s87 r88 => ?_)
        obtain ⟨g91, p92, n93, c94, rfl, f95⟩ := IntAt.op r88
        first | refine o_bs [.bool _, .slice _ _ _] (by decide) rfl (fun b96 => ?_) | refine o_bs [_, _] (by decide) rfl (fun b96 => ?_)
        refine JL.fact (fun h => Cells IntR 2 h [.bool g91, .slice p92 n93 c94] [y90]) (show Cells IntR 2 _ [.bool g91, .slice p92 n93 c94] [y90] from (Cells.cons (R := IntR) (us := [.bool g91, .slice p92 n93 c94]) rfl (Mo.up f95) Cells.nil)) (fun hc97 => ?_)
        refine JL.fact (fun h => OwnL IntR 37 2 h (.slice (some ⟨b96, 0, none⟩) 1 1) [y90] [(b96, row 37 [.bool g91, .slice p92 n93 c94])]) (OwnL.lit _ rfl hc97 rfl) (fun ho98 => ?_)
        refine o_appB (R := IntR) rfl rfl (OwnL.mono f60) inferInstance hc97 e100 (fun p101 c102 L103 ho104 => ?_)
        first | refine o_q (q_asv (v := .slice _ _ _) rfl) ?_ | refine o_q (q_as) ?_
        refine JL.nil ?_
        refine J.region ?_
        first | refine o_q (q_mvv (v := .int _ _) rfl) ?_ | refine o_q (q_mv) ?_
        refine o_q (q_add rfl rfl (wi64 k70)) ?_
        first | refine o_q (q_asv (v := .int _ _) rfl) ?_ | refine o_q (q_as) ?_
        refine JL.nil ?_
        replace hm := inl_onward hm hk68
        exact ⟨⟨i63 + 1, v72, l99, p73, n74, c75, p101, l99.length, c102, L103⟩, rfl, ⟨rfl, rfl, rfl, rfl, rfl, rfl, trivial⟩, ⟨rfl, rfl, trivial⟩, ⟨(Sls.mono f76), (OwnL.mono ho104), Int.le_trans hle66 (Int.le_of_lt (Int.lt_succ _)), hm, inferInstance⟩, (muN c69), inferInstance⟩
    ·
      replace hm := forN_ge c69 hm
      unfold M.torsionref06_Sized_k2 at hm
      refine J.condF rfl (decide_eq_false c69) ?_
      refine J.exit ?_
      refine J.fzO (R := IntR) (OwnL.mono f60) (fun h119 s120 f121 => ?_)
      obtain ⟨l125, e126, hm⟩ := bnd_some hm
      refine J.region ?_
      refine o_q (q_fa rfl) ?_
      refine o_q (q_ld rfl inferInstance rfl) ?_
      first | refine o_q (q_mvv (v := .slice _ _ _) rfl) ?_ | refine o_q (q_mv) ?_
      first | refine o_bs [.slice _ _ _] (by decide) rfl (fun b122 => ?_) | refine o_bs [_] (by decide) rfl (fun b122 => ?_)
      refine JL.fact (fun h => Cells (LR IntR 2) 1 h [.slice p57 n58 c59] [v56]) (show Cells (LR IntR 2) 1 _ [.slice p57 n58 c59] [v56] from (Cells.cons (R := (LR IntR 2)) (us := [.slice p57 n58 c59]) rfl ⟨_, _, _, rfl, Sls.mono f121⟩ Cells.nil)) (fun hc123 => ?_)
      refine JL.fact (fun h => OwnL (LR IntR 2) 32 1 h (.slice (some ⟨b122, 0, none⟩) 1 1) [v56] [(b122, row 32 [.slice p57 n58 c59])]) (OwnL.lit _ rfl hc123 rfl) (fun ho124 => ?_)
      refine o_appB (R := (LR IntR 2)) rfl rfl (OwnL.mono f37) inferInstance hc123 e126 (fun p127 c128 L129 ho130 => ?_)
      refine o_q (q_fa rfl) ?_
      first | refine o_stc (vs := [.slice _ _ _]) (l' := [.int _ _, .int _ _, .slice _ _ _]) rfl rfl rfl rfl rfl inferInstance rfl rfl ?_ | refine o_stc (vs := [_]) (l' := [_, _, _]) rfl rfl rfl rfl rfl inferInstance rfl rfl ?_
      refine JL.nil ?_
      refine J.region ?_
      first | refine o_q (q_mvv (v := .int _ _) rfl) ?_ | refine o_q (q_mv) ?_
      refine o_q (q_add rfl rfl (wi64 k47)) ?_
      first | refine o_q (q_asv (v := .int _ _) rfl) ?_ | refine o_q (q_as) ?_
      refine JL.nil ?_
      replace hm := inl_onward hm hk45
      exact ⟨⟨i40 + 1, v51, l125, p52, n53, c54, p127, l125.length, c128, L129⟩, rfl, ⟨rfl, rfl, rfl, rfl, rfl, trivial⟩, ⟨rfl, trivial⟩, ⟨(Sls.mono f55), (OwnL.mono ho130), Int.le_trans hle43 (Int.le_of_lt (Int.lt_succ _)), hm, inferInstance⟩, (muN c46), inferInstance⟩
  ·
    replace hm := forN_ge c46 hm
    unfold M.torsionref06_Sized_k3 at hm
    refine J.condF rfl (decide_eq_false c46) ?_
    refine J.exit ?_
    refine J.seq ?_
    refine J.region ?_
    refine o_q (q_lda (vs := [_, _, _]) rfl inferInstance ⟨rfl, rfl, rfl, trivial⟩) ?_
    first | refine o_stc (vs := [.int _ _, .int _ _, .slice _ _ _]) (l' := [.int _ _, .int _ _, .slice _ _ _]) rfl rfl rfl rfl rfl inferInstance rfl rfl ?_ | refine o_stc (vs := [_, _, _]) (l' := [_, _, _]) rfl rfl rfl rfl rfl inferInstance rfl rfl ?_
    refine JL.nil ?_
    refine J.fzO (R := (LR IntR 2)) (OwnL.mono f37) (fun h131 s132 f133 => ?_)
    refine J.ret ?_
    obtain rfl := Option.some.inj hm
    exact ret_ok (fn := Try.f28) rfl (.agg rfl inferInstance inferInstance .nil) ⟨_, rfl, ⟨_, _, _, rfl, Sls.mono f133⟩⟩
set_option maxHeartbeats 4000000 in
theorem torsionref06_Made_fn {h : Heap} {x0 : R06Raw} {x1 : Int} {v0 : Value} (r0 : AggV R06RawR h v0 x0) {r : TMat} (hm : M.torsionref06_Made x0 x1 = some r) :
    Fn Try.prog 22 #[v0, .int .i64 x1] h fun v h' => AggV TMatR h' v r := by
  obtain ⟨_, rfl, p21, n22, c23, rfl, f24⟩ := r0
  refine Fn.intro (args := [_, _]) Try.func22 rfl rfl (Nat.le_of_ble_eq_true rfl) fun w => ?_
  unfold M.torsionref06_Made at hm
  refine J.seq ?_
  refine J.region ?_
  first | refine o_bx (v := .agg ⟨[.int _ _, .int _ _, .slice _ _ _]⟩) rfl rfl (fun b25 => ?_) | refine o_bx rfl rfl (fun b25 => ?_)
  refine o_al (fun b26 => ?_)
  refine JL.nil ?_
  refine J.seq ?_
  obtain ⟨k27, hm⟩ := chk64_some hm
  obtain ⟨k28, hm⟩ := chk64_some hm
  obtain ⟨k29, hm⟩ := chk_some hm
  obtain ⟨k30, hm⟩ := chk64_some hm
  obtain ⟨k31, hm⟩ := chk_some hm
  obtain ⟨y37, e36, hm⟩ := bnd_some hm
  refine J.drawB [b25] [] ?_
  refine JD.loadB 0 (by kernel_rfl) rfl trivial (q_lda (vs := [_, _, _]) rfl inferInstance ⟨rfl, rfl, rfl, trivial⟩) ?_
  refine JD.calc 1 (by kernel_rfl) rfl trivial ss_subB (q_fa rfl) ?_
  refine JD.loadB 2 (by kernel_rfl) rfl trivial (q_ld rfl inferInstance rfl) ?_
  refine JD.calc 3 (by kernel_rfl) rfl trivial ss_subB (q_cv rfl (wi64 k27)) ?_
  first | refine JD.calc 4 (by kernel_rfl) rfl trivial ss_subB (q_mvv (v := .int _ _) rfl) ?_ | refine JD.calc 4 (by kernel_rfl) rfl trivial ss_subB (q_mv) ?_
  refine JD.calc 5 (by kernel_rfl) rfl trivial ss_subB (q_add rfl rfl (wi64 k28)) ?_
  refine JD.calc 6 (by kernel_rfl) rfl trivial ss_subB (q_rem rfl rfl k29 rfl) ?_
  refine JD.calc 7 (by kernel_rfl) rfl trivial ss_subB (q_fa rfl) ?_
  refine JD.loadB 8 (by kernel_rfl) rfl trivial (q_ld rfl inferInstance rfl) ?_
  refine JD.calc 9 (by kernel_rfl) rfl trivial ss_subB (q_cv rfl (wi64 k30)) ?_
  first | refine JD.calc 10 (by kernel_rfl) rfl trivial ss_subB (q_mvv (v := .int _ _) rfl) ?_ | refine JD.calc 10 (by kernel_rfl) rfl trivial ss_subB (q_mv) ?_
  refine JD.calc 11 (by kernel_rfl) rfl trivial ss_subB (q_add rfl rfl (wi64 k28)) ?_
  refine JD.calc 12 (by kernel_rfl) rfl trivial ss_subB (q_rem rfl rfl k31 rfl) ?_
  refine JD.one 13 (by kernel_rfl) ?_
  refine JX.effB rfl rfl trivial ?_
  refine o_call (torsionref06_Sized_fn ⟨_, rfl, ⟨_, _, _, rfl, Sls.mono f24⟩⟩ e36) (fun v32 h33 s34 r35 => ?_)
  obtain ⟨_, rfl, p38, n39, c40, rfl, f41⟩ := r35
  refine JL.nil ⟨rfl, inferInstance, inferInstance, ?_⟩
  refine JD.one 14 (by kernel_rfl) ?_
  refine JX.effB rfl rfl trivial ?_
  first | refine o_stc (vs := [.int _ _, .int _ _, .slice _ _ _]) (l' := [.int _ _, .int _ _, .slice _ _ _]) rfl rfl rfl rfl rfl inferInstance rfl rfl ?_ | refine o_stc (vs := [_, _, _]) (l' := [_, _, _]) rfl rfl rfl rfl rfl inferInstance rfl rfl ?_
  refine JL.nil ⟨rfl, inferInstance, inferInstance, ?_⟩
  refine JD.done (by kernel_rfl) ?_ _
  --
  refine J.ret ?_
  obtain rfl := Option.some.inj hm
  exact ret_ok (fn := Try.f22) rfl (.agg rfl inferInstance inferInstance .nil) ⟨_, rfl, ⟨_, _, _, rfl, Sls.mono f41⟩⟩
set_option maxHeartbeats 4000000 in
theorem torsionref06_Row_fn {h : Heap} {x0 : List Int} {v0 : Value} (r0 : Sls IntR 2 h v0 x0) {r : (List TTerm)} (hm : M.torsionref06_Row x0 = some r) :
    Fn Try.prog 12 #[v0] h fun v h' => Sls TTermR 3 h' v r := by
  obtain ⟨p21, n22, c23, rfl, f24⟩ := Sls.op3 r0
  refine Fn.intro (args := [_]) Try.func12 rfl rfl (Nat.le_of_ble_eq_true rfl) fun w => ?_
  unfold M.torsionref06_Row at hm
  refine J.seq ?_
  refine J.region ?_
  first | refine o_q (q_asv (v := .slice _ _ _) rfl) ?_ | refine o_q (q_as) ?_
  refine JL.nil ?_
  refine J.seq ?_
  refine J.region ?_
  first | refine o_bs [] (by decide) rfl (fun b25 => ?_) | refine o_bs [] (by decide) rfl (fun b25 => ?_)
  refine JL.fact (fun h => Cells TTermR 3 h [] ([] : List TTerm)) (show Cells TTermR 3 _ [] ([] : List TTerm) from Cells.nil) (fun hc26 => ?_)
  refine JL.fact (fun h => OwnL TTermR 71 3 h (.slice (some ⟨b25, 0, none⟩) 0 0) ([] : List TTerm) [(b25, row 71 [])]) (OwnL.lit _ rfl hc26 rfl) (fun ho27 => ?_)
  first | refine o_q (q_asv (v := .slice _ _ _) rfl) ?_ | refine o_q (q_as) ?_
  refine JL.nil ?_
  refine J.seq ?_
  refine J.seq ?_
  refine J.region ?_
  first | refine o_q (q_asv (v := .int _ _) rfl) ?_ | refine o_q (q_as) ?_
  refine JL.nil ?_
  refine J.block ?_
  obtain ⟨hl36, hm⟩ := rngL_some hm
  refine J.loopK (α := Nat × (List TTerm) × (Option Addr) × Nat × Nat × Own) (fun ⟨i35, v28, p29, n30, c31, L33⟩ h' L' => OwnL TTermR 71 3 h' (.slice p29 n30 c31) v28 L33 ∧ forL M.torsionref06_Row_b1 M.torsionref06_Row_k1 (List.drop i35 x0) i35 v28 = some r ∧ Sp (L33 ++ ([])) L') [(0, .slice _ _ _)] ⟨rfl, trivial⟩ (fun ⟨i35, v28, p29, n30, c31, L33⟩ => [(3, .slice p29 n30 c31), (4, .int .i64 (i35 : Int))]) (fun ⟨i35, v28, p29, n30, c31, L33⟩ => x0.length - i35) ⟨0, ([] : List TTerm), (some ⟨b25, 0, none⟩), 0, 0, [(b25, row 71 [])]⟩ ⟨(OwnL.mono ho27), hm, inferInstance⟩ ⟨rfl, rfl, trivial⟩ ?_
  rintro ⟨i35, v28, p29, n30, c31, L33⟩ σq37 hq37 Lq37 sq37 ⟨f32, hm, hspq37⟩
  refine J.sp hspq37 ?_
  refine J.seq ?_
  refine J.seq ?_
  refine J.region ?_
  first | refine o_q (q_mvv (v := .int _ _) rfl) ?_ | refine o_q (q_mv) ?_
  first | refine o_q (q_mvv (v := .slice _ _ _) rfl) ?_ | refine o_q (q_mv) ?_
  refine o_q (q_lenE (k := x0.length) rfl (Sls.len f24)) ?_
  refine o_q (q_lss rfl rfl) ?_
  refine JL.nil ?_
  by_cases c41 : (i35 : Int) < (x0.length : Int)
  ·
    obtain ⟨x42, o39, hl43, hx44, hm, hk40⟩ := forL_cons c41 hm
    unfold M.torsionref06_Row_b1 at hm
    refine J.condT rfl (decide_eq_true c41) ?_
    have k45 : -9223372036854775808 ≤ (i35 : Int) + 1 ∧ (i35 : Int) + 1 ≤ 9223372036854775807 := by omega
    refine J.skip ?_
    refine J.seq ?_
    refine J.block ?_
    refine J.seq ?_
    obtain ⟨b46, o47, rfl⟩ := Sls.op f24 hl43
    obtain ⟨us48, hc49, hR50⟩ := Sls.at f24 hx44
    obtain ⟨g51, p52, n53, c54, rfl, f55⟩ := IntR.op hR50
    obtain ⟨y61, e60, hm⟩ := bnd_some hm
    refine J.region ?_
    first | refine o_q (q_mvv (v := .slice _ _ _) rfl) ?_ | refine o_q (q_mv) ?_
    first | refine o_q (q_mvv (v := .int _ _) rfl) ?_ | refine o_q (q_mv) ?_
    refine o_q (q_ian rfl rfl rfl (by first | exact hl43 | (rw [Sls.len f24]; exact hl43))) ?_
    refine o_q (q_ldfa rfl hc49) ?_
    refine o_call (rsign_fn (IntR.at (Mo.up f55)) e60) (fun v56 h57 s58 r59 => ?_)
    obtain rfl := (show _ = _ from r59)
    refine o_q (q_neq rfl rfl) ?_
    refine JL.nil ?_
    by_cases c62 : y61 = 0
    ·
      replace hm := ite_T c62 hm
      refine J.condF rfl (decide_eq_false (fun z => z c62)) ?_
      refine J.skip ?_
      refine J.region ?_
      first | refine o_q (q_mvv (v := .int _ _) rfl) ?_ | refine o_q (q_mv) ?_
      refine o_q (q_add rfl rfl (wi64 k45)) ?_
      first | refine o_q (q_asv (v := .int _ _) rfl) ?_ | refine o_q (q_as) ?_
      refine JL.nil ?_
      replace hm := inl_onward hm hk40
      exact ⟨⟨i35 + 1, v28, p29, n30, c31, L33⟩, rfl, ⟨rfl, trivial⟩, ⟨rfl, rfl, trivial⟩, ⟨(OwnL.mono f32), hm, inferInstance⟩, (muL hl43), inferInstance⟩
    ·
      replace hm := ite_F c62 hm
      refine J.condT rfl (decide_eq_true c62) ?_
      obtain ⟨l69, e70, hm⟩ := bnd_some hm
      refine J.region ?_
      first | refine o_q (q_mvv (v := .slice _ _ _) rfl) ?_ | refine o_q (q_mv) ?_
      first | refine o_q (q_mvv (v := .int _ _) rfl) ?_ | refine o_q (q_mv) ?_
      first | refine o_q (q_mvv (v := .slice _ _ _) rfl) ?_ | refine o_q (q_mv) ?_
      first | refine o_q (q_mvv (v := .int _ _) rfl) ?_ | refine o_q (q_mv) ?_
      refine o_q (q_ian rfl rfl rfl (by first | exact hl43 | (rw [Sls.len f24]; exact hl43))) ?_
      refine o_q (q_ldfa rfl hc49) ?_
      first | refine o_q (q_bd [.int _ _, .bool _, .slice _ _ _] rfl) ?_ | refine o_q (q_bd [_, _, _] rfl) ?_
      first | refine o_bs [.int _ _, .bool _, .slice _ _ _] (by decide) rfl (fun b66 => ?_) | refine o_bs [_, _, _] (by decide) rfl (fun b66 => ?_)
      refine JL.fact (fun h => Cells TTermR 3 h [.int .i64 (i35 : Int), .bool g51, .slice p52 n53 c54] [(TTerm.mk (i35 : Int) x42)]) (show Cells TTermR 3 _ [.int .i64 (i35 : Int), .bool g51, .slice p52 n53 c54] [(TTerm.mk (i35 : Int) x42)] from (Cells.cons (R := TTermR) (us := [.int .i64 (i35 : Int), .bool g51, .slice p52 n53 c54]) rfl ⟨_, _, _, _, rfl, (Mo.up f55)⟩ Cells.nil)) (fun hc67 => ?_)
      refine JL.fact (fun h => OwnL TTermR 71 3 h (.slice (some ⟨b66, 0, none⟩) 1 1) [(TTerm.mk (i35 : Int) x42)] [(b66, row 71 [.int .i64 (i35 : Int), .bool g51, .slice p52 n53 c54])]) (OwnL.lit _ rfl hc67 rfl) (fun ho68 => ?_)
      refine o_appB (R := TTermR) rfl rfl (OwnL.mono f32) inferInstance hc67 e70 (fun p71 c72 L73 ho74 => ?_)
      first | refine o_q (q_asv (v := .slice _ _ _) rfl) ?_ | refine o_q (q_as) ?_
      refine JL.nil ?_
      refine J.region ?_
      first | refine o_q (q_mvv (v := .int _ _) rfl) ?_ | refine o_q (q_mv) ?_
      refine o_q (q_add rfl rfl (wi64 k45)) ?_
      first | refine o_q (q_asv (v := .int _ _) rfl) ?_ | refine o_q (q_as) ?_
      refine JL.nil ?_
      replace hm := inl_onward hm hk40
      exact ⟨⟨i35 + 1, l69, p71, l69.length, c72, L73⟩, rfl, ⟨rfl, trivial⟩, ⟨rfl, rfl, trivial⟩, ⟨(OwnL.mono ho74), hm, inferInstance⟩, (muL hl43), inferInstance⟩
  ·
    replace hm := forL_nil c41 hm
    unfold M.torsionref06_Row_k1 at hm
    refine J.condF rfl (decide_eq_false c41) ?_
    refine J.exit ?_
    refine J.seq ?_
    refine J.region ?_
    first | refine o_q (q_mvv (v := .slice _ _ _) rfl) ?_ | refine o_q (q_mv) ?_
    first | refine o_q (q_asv (v := .slice _ _ _) rfl) ?_ | refine o_q (q_as) ?_
    refine JL.nil ?_
    refine J.fzO (R := TTermR) (OwnL.mono f32) (fun h75 s76 f77 => ?_)
    refine J.ret ?_
    obtain rfl := Option.some.inj hm
    exact ret_ok (fn := Try.f12) rfl (.tmp rfl .nil) (Sls.mono f77)
set_option maxHeartbeats 4000000 in
theorem torsionref06_ValidRow_fn {h : Heap} {x0 : List TTerm} {x1 : Int} {v0 : Value} (r0 : Sls TTermR 3 h v0 x0) {r : Bool} (hm : M.torsionref06_ValidRow x0 x1 = some r) :
    Fn Try.prog 16 #[v0, .int .i64 x1] h fun v h' => v = .bool r := by
  obtain ⟨p21, n22, c23, rfl, f24⟩ := Sls.op3 r0
  refine Fn.intro (args := [_, _]) Try.func16 rfl rfl (Nat.le_of_ble_eq_true rfl) fun w => ?_
  unfold M.torsionref06_ValidRow at hm
  refine J.seq ?_
  refine J.region ?_
  first | refine o_q (q_asv (v := .bool _) rfl) ?_ | refine o_q (q_as) ?_
  refine JL.nil ?_
  refine J.seq ?_
  refine J.seq ?_
  refine J.region ?_
  first | refine o_q (q_asv (v := .int _ _) rfl) ?_ | refine o_q (q_as) ?_
  refine JL.nil ?_
  refine J.block ?_
  obtain ⟨hl27, hm⟩ := rngL_some hm
  refine J.loopK (α := Nat) (fun i26 h' L' => forL (M.torsionref06_ValidRow_b1 x0 x1) M.torsionref06_ValidRow_k1 (List.drop i26 x0) i26 () = some r ∧ Sp ([]) L') [(0, .slice _ _ _), (1, .int _ _)] ⟨rfl, rfl, trivial⟩ (fun i26 => [(5, .int .i64 (i26 : Int))]) (fun i26 => x0.length - i26) 0 ⟨hm, inferInstance⟩ ⟨rfl, trivial⟩ ?_
  rintro i26 σq28 hq28 Lq28 sq28 ⟨hm, hspq28⟩
  refine J.sp hspq28 ?_
  refine J.seq ?_
  refine J.seq ?_
  refine J.region ?_
  first | refine o_q (q_mvv (v := .int _ _) rfl) ?_ | refine o_q (q_mv) ?_
  first | refine o_q (q_mvv (v := .slice _ _ _) rfl) ?_ | refine o_q (q_mv) ?_
  refine o_q (q_lenE (k := x0.length) rfl (Sls.len f24)) ?_
  refine o_q (q_lss rfl rfl) ?_
  refine JL.nil ?_
  by_cases c32 : (i26 : Int) < (x0.length : Int)
  ·
    obtain ⟨x33, o30, hl34, hx35, hm, hk31⟩ := forL_cons c32 hm
    unfold M.torsionref06_ValidRow_b1 at hm
    refine J.condT rfl (decide_eq_true c32) ?_
    have k36 : -9223372036854775808 ≤ (i26 : Int) + 1 ∧ (i26 : Int) + 1 ≤ 9223372036854775807 := by omega
    refine J.skip ?_
    refine J.seq ?_
    refine J.block ?_
    refine J.seq ?_
    obtain ⟨b37, o38, rfl⟩ := Sls.op f24 hl34
    obtain ⟨us39, hc40, hR41⟩ := Sls.at f24 hx35
    obtain ⟨g42, p43, n44, c45, rfl, f46⟩ := hR41
    obtain ⟨y52, e51, hm⟩ := bnd_some hm
    refine J.region ?_
    first | refine o_q (q_mvv (v := .slice _ _ _) rfl) ?_ | refine o_q (q_mv) ?_
    first | refine o_q (q_mvv (v := .int _ _) rfl) ?_ | refine o_q (q_mv) ?_
    refine o_q (q_ian rfl rfl rfl (by first | exact hl34 | (rw [Sls.len f24]; exact hl34))) ?_
    refine o_q (q_fa rfl) ?_
    refine o_q (q_ldfs (vs := [_, _]) rfl hc40 rfl) ?_
    refine o_call (rvalid_fn (IntR.at (Mo.up f46)) e51) (fun v47 h48 s49 r50 => ?_)
    obtain rfl := (show _ = _ from r50)
    first | refine o_q (q_asv (v := .bool _) rfl) ?_ | refine o_q (q_as) ?_
    refine JL.nil ?_
    refine J.seq ?_
    by_cases c53 : y52 = true
    ·
      replace hm := ite_T c53 hm
      obtain ⟨y62, e61, hm⟩ := bnd_some hm
      by_cases c63 : y62 = 0
      ·
        replace hm := ite_T c63 hm
        refine J.drawB [] [] ?_
        first | refine JD.calc 0 (by kernel_rfl) rfl trivial ss_subB (q_mvv (v := .bool _) rfl) ?_ | refine JD.calc 0 (by kernel_rfl) rfl trivial ss_subB (q_mv) ?_
        refine JD.calc 1 (by kernel_rfl) rfl trivial ss_subB (q_not rfl) ?_
        first | refine JD.calc 2 (by kernel_rfl) rfl trivial ss_subB (q_mvv (v := .bool _) rfl) ?_ | refine JD.calc 2 (by kernel_rfl) rfl trivial ss_subB (q_mv) ?_
        first | refine JD.calc 3 (by kernel_rfl) rfl ⟨_, rfl, (congrArg Value.bool (congrArg Bool.not (show y52 = true from c53)))⟩ ss_subB (q_mvv (v := .slice _ _ _) rfl) ?_ | refine JD.calc 3 (by kernel_rfl) rfl ⟨_, rfl, (congrArg Value.bool (congrArg Bool.not (show y52 = true from c53)))⟩ ss_subB (q_mv) ?_
        first | refine JD.calc 4 (by kernel_rfl) rfl ⟨_, rfl, (congrArg Value.bool (congrArg Bool.not (show y52 = true from c53)))⟩ ss_subB (q_mvv (v := .int _ _) rfl) ?_ | refine JD.calc 4 (by kernel_rfl) rfl ⟨_, rfl, (congrArg Value.bool (congrArg Bool.not (show y52 = true from c53)))⟩ ss_subB (q_mv) ?_
        refine JD.calc 5 (by kernel_rfl) rfl ⟨_, rfl, (congrArg Value.bool (congrArg Bool.not (show y52 = true from c53)))⟩ ss_subB (q_ian rfl rfl rfl (by first | exact hl34 | (rw [Sls.len f24]; exact hl34))) ?_
        refine JD.calc 6 (by kernel_rfl) rfl ⟨_, rfl, (congrArg Value.bool (congrArg Bool.not (show y52 = true from c53)))⟩ ss_subB (q_fa rfl) ?_
        refine JD.loadB 7 (by kernel_rfl) rfl ⟨_, rfl, (congrArg Value.bool (congrArg Bool.not (show y52 = true from c53)))⟩ (q_ldfs (vs := [_, _]) rfl hc40 rfl) ?_
        refine JD.one 8 (by kernel_rfl) ?_
        refine JX.effB rfl rfl ⟨_, rfl, (congrArg Value.bool (congrArg Bool.not (show y52 = true from c53)))⟩ ?_
        refine o_call (rsign_fn (IntR.at (Mo.up f46)) e61) (fun v57 h58 s59 r60 => ?_)
        obtain rfl := (show _ = _ from r60)
        refine JL.nil ⟨rfl, inferInstance, inferInstance, ?_⟩
        refine JD.calc 9 (by kernel_rfl) rfl ⟨_, rfl, (congrArg Value.bool (congrArg Bool.not (show y52 = true from c53)))⟩ ss_subB (q_eql rfl rfl) ?_
        first | refine JD.calc 10 (by kernel_rfl) rfl trivial ss_subB (q_pickFv (v := .bool _) rfl (congrArg Bool.not (show y52 = true from c53)) rfl) ?_ | refine JD.calc 10 (by kernel_rfl) rfl trivial ss_subB (q_pickF rfl (congrArg Bool.not (show y52 = true from c53))) ?_
        first | refine JD.calc 11 (by kernel_rfl) rfl trivial ss_subB (q_mvv (v := .bool _) rfl) ?_ | refine JD.calc 11 (by kernel_rfl) rfl trivial ss_subB (q_mv) ?_
        refine JD.pass 12 (by kernel_rfl) rfl rfl (congrArg Value.bool (decide_eq_true c63)) ss_subB ?_
        refine JD.pass 13 (by kernel_rfl) rfl rfl (congrArg Value.bool (decide_eq_true c63)) ss_subB ?_
        refine JD.pass 14 (by kernel_rfl) rfl rfl (congrArg Value.bool (decide_eq_true c63)) ss_subB ?_
        refine JD.pass 15 (by kernel_rfl) rfl rfl (congrArg Value.bool (decide_eq_true c63)) ss_subB ?_
        refine JD.pass 16 (by kernel_rfl) rfl rfl (congrArg Value.bool (decide_eq_true c63)) ss_subB ?_
        refine JD.pass 17 (by kernel_rfl) rfl rfl (congrArg Value.bool (decide_eq_true c63)) ss_subB ?_
        first | refine JD.calc 18 (by kernel_rfl) rfl trivial ss_subB (q_pickTv (v := .bool _) rfl (decide_eq_true c63) rfl) ?_ | refine JD.calc 18 (by kernel_rfl) rfl trivial ss_subB (q_pickT rfl (decide_eq_true c63)) ?_
        first | refine JD.calc 19 (by kernel_rfl) rfl trivial ss_subB (q_mvv (v := .bool _) rfl) ?_ | refine JD.calc 19 (by kernel_rfl) rfl trivial ss_subB (q_mv) ?_
        refine JD.pass 20 (by kernel_rfl) rfl rfl rfl ss_subB ?_
        refine JD.pass 21 (by kernel_rfl) rfl rfl rfl ss_subB ?_
        refine JD.pass 22 (by kernel_rfl) rfl rfl rfl ss_subB ?_
        refine JD.passU 23 (by kernel_rfl) rfl rfl rfl ss_subB ?_
        refine JD.passU 24 (by kernel_rfl) rfl rfl rfl ss_subB ?_
        refine JD.passU 25 (by kernel_rfl) rfl rfl rfl ss_subB ?_
        refine JD.passU 26 (by kernel_rfl) rfl rfl rfl ss_subB ?_
        refine JD.passU 27 (by kernel_rfl) rfl rfl rfl ss_subB ?_
        refine JD.passU 28 (by kernel_rfl) rfl rfl rfl ss_subB ?_
        refine JD.passU 29 (by kernel_rfl) rfl rfl rfl ss_subB ?_
        refine JD.pass 30 (by kernel_rfl) rfl rfl rfl ss_subB ?_
        first | refine JD.calc 31 (by kernel_rfl) rfl trivial ss_subB (q_pickTv (v := .bool _) rfl rfl rfl) ?_ | refine JD.calc 31 (by kernel_rfl) rfl trivial ss_subB (q_pickT rfl rfl) ?_
        first | refine JD.calc 32 (by kernel_rfl) rfl trivial ss_subB (q_mvv (v := .bool _) rfl) ?_ | refine JD.calc 32 (by kernel_rfl) rfl trivial ss_subB (q_mv) ?_
        refine JD.pass 33 (by kernel_rfl) rfl rfl rfl ss_subB ?_
        refine JD.pass 34 (by kernel_rfl) rfl rfl rfl ss_subB ?_
        refine JD.pass 35 (by kernel_rfl) rfl rfl rfl ss_subB ?_
        refine JD.passU 36 (by kernel_rfl) rfl rfl rfl ss_subB ?_
        refine JD.passU 37 (by kernel_rfl) rfl rfl rfl ss_subB ?_
        refine JD.passU 38 (by kernel_rfl) rfl rfl rfl ss_subB ?_
        refine JD.passU 39 (by kernel_rfl) rfl rfl rfl ss_subB ?_
        refine JD.passU 40 (by kernel_rfl) rfl rfl rfl ss_subB ?_
        refine JD.passU 41 (by kernel_rfl) rfl rfl rfl ss_subB ?_
        refine JD.passU 42 (by kernel_rfl) rfl rfl rfl ss_subB ?_
        refine JD.passU 43 (by kernel_rfl) rfl rfl rfl ss_subB ?_
        refine JD.passU 44 (by kernel_rfl) rfl rfl rfl ss_subB ?_
        refine JD.passU 45 (by kernel_rfl) rfl rfl rfl ss_subB ?_
        refine JD.passU 46 (by kernel_rfl) rfl rfl rfl ss_subB ?_
        refine JD.passU 47 (by kernel_rfl) rfl rfl rfl ss_subB ?_
        refine JD.pass 48 (by kernel_rfl) rfl rfl rfl ss_subB ?_
        first | refine JD.calc 49 (by kernel_rfl) rfl trivial ss_subB (q_pickTv (v := .bool _) rfl rfl rfl) ?_ | refine JD.calc 49 (by kernel_rfl) rfl trivial ss_subB (q_pickT rfl rfl) ?_
        refine JD.done (by kernel_rfl) ?_ _
        --
        refine J.condT rfl rfl ?_
        refine J.seq ?_
        refine J.region ?_
        first | refine o_q (q_asv (v := .bool _) rfl) ?_ | refine o_q (q_as) ?_
        refine JL.nil ?_
        replace hm := inr_onward hm hk31
        refine J.ret ?_
        obtain rfl := Option.some.inj hm
        exact ret_ok (fn := Try.f16) rfl (.tmp rfl .nil) rfl
      ·
        replace hm := ite_F c63 hm
        by_cases c67 : x33.Col < 0
        ·
          replace hm := ite_T c67 hm
          refine J.drawB [] [] ?_
          first | refine JD.calc 0 (by kernel_rfl) rfl trivial ss_subB (q_mvv (v := .bool _) rfl) ?_ | refine JD.calc 0 (by kernel_rfl) rfl trivial ss_subB (q_mv) ?_
          refine JD.calc 1 (by kernel_rfl) rfl trivial ss_subB (q_not rfl) ?_
          first | refine JD.calc 2 (by kernel_rfl) rfl trivial ss_subB (q_mvv (v := .bool _) rfl) ?_ | refine JD.calc 2 (by kernel_rfl) rfl trivial ss_subB (q_mv) ?_
          first | refine JD.calc 3 (by kernel_rfl) rfl ⟨_, rfl, (congrArg Value.bool (congrArg Bool.not (show y52 = true from c53)))⟩ ss_subB (q_mvv (v := .slice _ _ _) rfl) ?_ | refine JD.calc 3 (by kernel_rfl) rfl ⟨_, rfl, (congrArg Value.bool (congrArg Bool.not (show y52 = true from c53)))⟩ ss_subB (q_mv) ?_
          first | refine JD.calc 4 (by kernel_rfl) rfl ⟨_, rfl, (congrArg Value.bool (congrArg Bool.not (show y52 = true from c53)))⟩ ss_subB (q_mvv (v := .int _ _) rfl) ?_ | refine JD.calc 4 (by kernel_rfl) rfl ⟨_, rfl, (congrArg Value.bool (congrArg Bool.not (show y52 = true from c53)))⟩ ss_subB (q_mv) ?_
          refine JD.calc 5 (by kernel_rfl) rfl ⟨_, rfl, (congrArg Value.bool (congrArg Bool.not (show y52 = true from c53)))⟩ ss_subB (q_ian rfl rfl rfl (by first | exact hl34 | (rw [Sls.len f24]; exact hl34))) ?_
          refine JD.calc 6 (by kernel_rfl) rfl ⟨_, rfl, (congrArg Value.bool (congrArg Bool.not (show y52 = true from c53)))⟩ ss_subB (q_fa rfl) ?_
          refine JD.loadB 7 (by kernel_rfl) rfl ⟨_, rfl, (congrArg Value.bool (congrArg Bool.not (show y52 = true from c53)))⟩ (q_ldfs (vs := [_, _]) rfl hc40 rfl) ?_
          refine JD.one 8 (by kernel_rfl) ?_
          refine JX.effB rfl rfl ⟨_, rfl, (congrArg Value.bool (congrArg Bool.not (show y52 = true from c53)))⟩ ?_
          refine o_call (rsign_fn (IntR.at (Mo.up f46)) e61) (fun v57 h58 s59 r60 => ?_)
          obtain rfl := (show _ = _ from r60)
          refine JL.nil ⟨rfl, inferInstance, inferInstance, ?_⟩
          refine JD.calc 9 (by kernel_rfl) rfl ⟨_, rfl, (congrArg Value.bool (congrArg Bool.not (show y52 = true from c53)))⟩ ss_subB (q_eql rfl rfl) ?_
          first | refine JD.calc 10 (by kernel_rfl) rfl trivial ss_subB (q_pickFv (v := .bool _) rfl (congrArg Bool.not (show y52 = true from c53)) rfl) ?_ | refine JD.calc 10 (by kernel_rfl) rfl trivial ss_subB (q_pickF rfl (congrArg Bool.not (show y52 = true from c53))) ?_
          first | refine JD.calc 11 (by kernel_rfl) rfl trivial ss_subB (q_mvv (v := .bool _) rfl) ?_ | refine JD.calc 11 (by kernel_rfl) rfl trivial ss_subB (q_mv) ?_
          first | refine JD.calc 12 (by kernel_rfl) rfl ⟨_, rfl, (congrArg Value.bool (decide_eq_false c63))⟩ ss_subB (q_mvv (v := .slice _ _ _) rfl) ?_ | refine JD.calc 12 (by kernel_rfl) rfl ⟨_, rfl, (congrArg Value.bool (decide_eq_false c63))⟩ ss_subB (q_mv) ?_
          first | refine JD.calc 13 (by kernel_rfl) rfl ⟨_, rfl, (congrArg Value.bool (decide_eq_false c63))⟩ ss_subB (q_mvv (v := .int _ _) rfl) ?_ | refine JD.calc 13 (by kernel_rfl) rfl ⟨_, rfl, (congrArg Value.bool (decide_eq_false c63))⟩ ss_subB (q_mv) ?_
          refine JD.calc 14 (by kernel_rfl) rfl ⟨_, rfl, (congrArg Value.bool (decide_eq_false c63))⟩ ss_subB (q_ian rfl rfl rfl (by first | exact hl34 | (rw [Sls.len f24]; exact hl34))) ?_
          refine JD.calc 15 (by kernel_rfl) rfl ⟨_, rfl, (congrArg Value.bool (decide_eq_false c63))⟩ ss_subB (q_fa rfl) ?_
          refine JD.loadB 16 (by kernel_rfl) rfl ⟨_, rfl, (congrArg Value.bool (decide_eq_false c63))⟩ (q_ldf rfl (hc40.cell (j := 0) rfl)) ?_
          refine JD.calc 17 (by kernel_rfl) rfl ⟨_, rfl, (congrArg Value.bool (decide_eq_false c63))⟩ ss_subB (q_lss rfl rfl) ?_
          first | refine JD.calc 18 (by kernel_rfl) rfl trivial ss_subB (q_pickFv (v := .bool _) rfl (decide_eq_false c63) rfl) ?_ | refine JD.calc 18 (by kernel_rfl) rfl trivial ss_subB (q_pickF rfl (decide_eq_false c63)) ?_
          first | refine JD.calc 19 (by kernel_rfl) rfl trivial ss_subB (q_mvv (v := .bool _) rfl) ?_ | refine JD.calc 19 (by kernel_rfl) rfl trivial ss_subB (q_mv) ?_
          refine JD.pass 20 (by kernel_rfl) rfl rfl (congrArg Value.bool (decide_eq_true c67)) ss_subB ?_
          refine JD.pass 21 (by kernel_rfl) rfl rfl (congrArg Value.bool (decide_eq_true c67)) ss_subB ?_
          refine JD.pass 22 (by kernel_rfl) rfl rfl (congrArg Value.bool (decide_eq_true c67)) ss_subB ?_
          refine JD.passU 23 (by kernel_rfl) rfl rfl rfl ss_subB ?_
          refine JD.passU 24 (by kernel_rfl) rfl rfl rfl ss_subB ?_
          refine JD.passU 25 (by kernel_rfl) rfl rfl rfl ss_subB ?_
          refine JD.passU 26 (by kernel_rfl) rfl rfl rfl ss_subB ?_
          refine JD.passU 27 (by kernel_rfl) rfl rfl rfl ss_subB ?_
          refine JD.passU 28 (by kernel_rfl) rfl rfl rfl ss_subB ?_
          refine JD.passU 29 (by kernel_rfl) rfl rfl rfl ss_subB ?_
          refine JD.pass 30 (by kernel_rfl) rfl rfl (congrArg Value.bool (decide_eq_true c67)) ss_subB ?_
          first | refine JD.calc 31 (by kernel_rfl) rfl trivial ss_subB (q_pickTv (v := .bool _) rfl (decide_eq_true c67) rfl) ?_ | refine JD.calc 31 (by kernel_rfl) rfl trivial ss_subB (q_pickT rfl (decide_eq_true c67)) ?_
          first | refine JD.calc 32 (by kernel_rfl) rfl trivial ss_subB (q_mvv (v := .bool _) rfl) ?_ | refine JD.calc 32 (by kernel_rfl) rfl trivial ss_subB (q_mv) ?_
          refine JD.pass 33 (by kernel_rfl) rfl rfl rfl ss_subB ?_
          refine JD.pass 34 (by kernel_rfl) rfl rfl rfl ss_subB ?_
          refine JD.pass 35 (by kernel_rfl) rfl rfl rfl ss_subB ?_
          refine JD.passU 36 (by kernel_rfl) rfl rfl rfl ss_subB ?_
          refine JD.passU 37 (by kernel_rfl) rfl rfl rfl ss_subB ?_
          refine JD.passU 38 (by kernel_rfl) rfl rfl rfl ss_subB ?_
          refine JD.passU 39 (by kernel_rfl) rfl rfl rfl ss_subB ?_
          refine JD.passU 40 (by kernel_rfl) rfl rfl rfl ss_subB ?_
          refine JD.passU 41 (by kernel_rfl) rfl rfl rfl ss_subB ?_
          refine JD.passU 42 (by kernel_rfl) rfl rfl rfl ss_subB ?_
          refine JD.passU 43 (by kernel_rfl) rfl rfl rfl ss_subB ?_
          refine JD.passU 44 (by kernel_rfl) rfl rfl rfl ss_subB ?_
          refine JD.passU 45 (by kernel_rfl) rfl rfl rfl ss_subB ?_
          refine JD.passU 46 (by kernel_rfl) rfl rfl rfl ss_subB ?_
          refine JD.passU 47 (by kernel_rfl) rfl rfl rfl ss_subB ?_
          refine JD.pass 48 (by kernel_rfl) rfl rfl rfl ss_subB ?_
          first | refine JD.calc 49 (by kernel_rfl) rfl trivial ss_subB (q_pickTv (v := .bool _) rfl rfl rfl) ?_ | refine JD.calc 49 (by kernel_rfl) rfl trivial ss_subB (q_pickT rfl rfl) ?_
          refine JD.done (by kernel_rfl) ?_ _
          --
          refine J.condT rfl rfl ?_
          refine J.seq ?_
          refine J.region ?_
          first | refine o_q (q_asv (v := .bool _) rfl) ?_ | refine o_q (q_as) ?_
          refine JL.nil ?_
          replace hm := inr_onward hm hk31
          refine J.ret ?_
          obtain rfl := Option.some.inj hm
          exact ret_ok (fn := Try.f16) rfl (.tmp rfl .nil) rfl
        ·
          replace hm := ite_F c67 hm
          by_cases c68 : 0 ≤ x1
          ·
            replace hm := ite_T c68 hm
            by_cases c72 : x1 ≤ x33.Col
            ·
              replace hm := ite_T c72 hm
              refine J.drawB [] [] ?_
              first | refine JD.calc 0 (by kernel_rfl) rfl trivial ss_subB (q_mvv (v := .bool _) rfl) ?_ | refine JD.calc 0 (by kernel_rfl) rfl trivial ss_subB (q_mv) ?_
              refine JD.calc 1 (by kernel_rfl) rfl trivial ss_subB (q_not rfl) ?_
              first | refine JD.calc 2 (by kernel_rfl) rfl trivial ss_subB (q_mvv (v := .bool _) rfl) ?_ | refine JD.calc 2 (by kernel_rfl) rfl trivial ss_subB (q_mv) ?_
              first | refine JD.calc 3 (by kernel_rfl) rfl ⟨_, rfl, (congrArg Value.bool (congrArg Bool.not (show y52 = true from c53)))⟩ ss_subB (q_mvv (v := .slice _ _ _) rfl) ?_ | refine JD.calc 3 (by kernel_rfl) rfl ⟨_, rfl, (congrArg Value.bool (congrArg Bool.not (show y52 = true from c53)))⟩ ss_subB (q_mv) ?_
              first | refine JD.calc 4 (by kernel_rfl) rfl ⟨_, rfl, (congrArg Value.bool (congrArg Bool.not (show y52 = true from c53)))⟩ ss_subB (q_mvv (v := .int _ _) rfl) ?_ | refine JD.calc 4 (by kernel_rfl) rfl ⟨_, rfl, (congrArg Value.bool (congrArg Bool.not (show y52 = true from c53)))⟩ ss_subB (q_mv) ?_
              refine JD.calc 5 (by kernel_rfl) rfl ⟨_, rfl, (congrArg Value.bool (congrArg Bool.not (show y52 = true from c53)))⟩ ss_subB (q_ian rfl rfl rfl (by first | exact hl34 | (rw [Sls.len f24]; exact hl34))) ?_
              refine JD.calc 6 (by kernel_rfl) rfl ⟨_, rfl, (congrArg Value.bool (congrArg Bool.not (show y52 = true from c53)))⟩ ss_subB (q_fa rfl) ?_
              refine JD.loadB 7 (by kernel_rfl) rfl ⟨_, rfl, (congrArg Value.bool (congrArg Bool.not (show y52 = true from c53)))⟩ (q_ldfs (vs := [_, _]) rfl hc40 rfl) ?_
              refine JD.one 8 (by kernel_rfl) ?_
              refine JX.effB rfl rfl ⟨_, rfl, (congrArg Value.bool (congrArg Bool.not (show y52 = true from c53)))⟩ ?_
              refine o_call (rsign_fn (IntR.at (Mo.up f46)) e61) (fun v57 h58 s59 r60 => ?_)
              obtain rfl := (show _ = _ from r60)
              refine JL.nil ⟨rfl, inferInstance, inferInstance, ?_⟩
              refine JD.calc 9 (by kernel_rfl) rfl ⟨_, rfl, (congrArg Value.bool (congrArg Bool.not (show y52 = true from c53)))⟩ ss_subB (q_eql rfl rfl) ?_
              first | refine JD.calc 10 (by kernel_rfl) rfl trivial ss_subB (q_pickFv (v := .bool _) rfl (congrArg Bool.not (show y52 = true from c53)) rfl) ?_ | refine JD.calc 10 (by kernel_rfl) rfl trivial ss_subB (q_pickF rfl (congrArg Bool.not (show y52 = true from c53))) ?_
              first | refine JD.calc 11 (by kernel_rfl) rfl trivial ss_subB (q_mvv (v := .bool _) rfl) ?_ | refine JD.calc 11 (by kernel_rfl) rfl trivial ss_subB (q_mv) ?_
              first | refine JD.calc 12 (by kernel_rfl) rfl ⟨_, rfl, (congrArg Value.bool (decide_eq_false c63))⟩ ss_subB (q_mvv (v := .slice _ _ _) rfl) ?_ | refine JD.calc 12 (by kernel_rfl) rfl ⟨_, rfl, (congrArg Value.bool (decide_eq_false c63))⟩ ss_subB (q_mv) ?_
              first | refine JD.calc 13 (by kernel_rfl) rfl ⟨_, rfl, (congrArg Value.bool (decide_eq_false c63))⟩ ss_subB (q_mvv (v := .int _ _) rfl) ?_ | refine JD.calc 13 (by kernel_rfl) rfl ⟨_, rfl, (congrArg Value.bool (decide_eq_false c63))⟩ ss_subB (q_mv) ?_
              refine JD.calc 14 (by kernel_rfl) rfl ⟨_, rfl, (congrArg Value.bool (decide_eq_false c63))⟩ ss_subB (q_ian rfl rfl rfl (by first | exact hl34 | (rw [Sls.len f24]; exact hl34))) ?_
              refine JD.calc 15 (by kernel_rfl) rfl ⟨_, rfl, (congrArg Value.bool (decide_eq_false c63))⟩ ss_subB (q_fa rfl) ?_
              refine JD.loadB 16 (by kernel_rfl) rfl ⟨_, rfl, (congrArg Value.bool (decide_eq_false c63))⟩ (q_ldf rfl (hc40.cell (j := 0) rfl)) ?_
              refine JD.calc 17 (by kernel_rfl) rfl ⟨_, rfl, (congrArg Value.bool (decide_eq_false c63))⟩ ss_subB (q_lss rfl rfl) ?_
              first | refine JD.calc 18 (by kernel_rfl) rfl trivial ss_subB (q_pickFv (v := .bool _) rfl (decide_eq_false c63) rfl) ?_ | refine JD.calc 18 (by kernel_rfl) rfl trivial ss_subB (q_pickF rfl (decide_eq_false c63)) ?_
              first | refine JD.calc 19 (by kernel_rfl) rfl trivial ss_subB (q_mvv (v := .bool _) rfl) ?_ | refine JD.calc 19 (by kernel_rfl) rfl trivial ss_subB (q_mv) ?_
              first | refine JD.calc 20 (by kernel_rfl) rfl ⟨_, rfl, (congrArg Value.bool (decide_eq_false c67))⟩ ss_subB (q_mvv (v := .int _ _) rfl) ?_ | refine JD.calc 20 (by kernel_rfl) rfl ⟨_, rfl, (congrArg Value.bool (decide_eq_false c67))⟩ ss_subB (q_mv) ?_
              refine JD.calc 21 (by kernel_rfl) rfl ⟨_, rfl, (congrArg Value.bool (decide_eq_false c67))⟩ ss_subB (q_geq rfl rfl) ?_
              first | refine JD.calc 22 (by kernel_rfl) rfl ⟨_, rfl, (congrArg Value.bool (decide_eq_false c67))⟩ ss_subB (q_mvv (v := .bool _) rfl) ?_ | refine JD.calc 22 (by kernel_rfl) rfl ⟨_, rfl, (congrArg Value.bool (decide_eq_false c67))⟩ ss_subB (q_mv) ?_
              first | refine JD.calc 23 (by kernel_rfl) rfl ⟨_, rfl, (congrArg Value.bool (decide_eq_true c68))⟩ ss_subB (q_mvv (v := .slice _ _ _) rfl) ?_ | refine JD.calc 23 (by kernel_rfl) rfl ⟨_, rfl, (congrArg Value.bool (decide_eq_true c68))⟩ ss_subB (q_mv) ?_
              first | refine JD.calc 24 (by kernel_rfl) rfl ⟨_, rfl, (congrArg Value.bool (decide_eq_true c68))⟩ ss_subB (q_mvv (v := .int _ _) rfl) ?_ | refine JD.calc 24 (by kernel_rfl) rfl ⟨_, rfl, (congrArg Value.bool (decide_eq_true c68))⟩ ss_subB (q_mv) ?_
              refine JD.calc 25 (by kernel_rfl) rfl ⟨_, rfl, (congrArg Value.bool (decide_eq_true c68))⟩ ss_subB (q_ian rfl rfl rfl (by first | exact hl34 | (rw [Sls.len f24]; exact hl34))) ?_
              refine JD.calc 26 (by kernel_rfl) rfl ⟨_, rfl, (congrArg Value.bool (decide_eq_true c68))⟩ ss_subB (q_fa rfl) ?_
              refine JD.loadB 27 (by kernel_rfl) rfl ⟨_, rfl, (congrArg Value.bool (decide_eq_true c68))⟩ (q_ldf rfl (hc40.cell (j := 0) rfl)) ?_
              first | refine JD.calc 28 (by kernel_rfl) rfl ⟨_, rfl, (congrArg Value.bool (decide_eq_true c68))⟩ ss_subB (q_mvv (v := .int _ _) rfl) ?_ | refine JD.calc 28 (by kernel_rfl) rfl ⟨_, rfl, (congrArg Value.bool (decide_eq_true c68))⟩ ss_subB (q_mv) ?_
              refine JD.calc 29 (by kernel_rfl) rfl ⟨_, rfl, (congrArg Value.bool (decide_eq_true c68))⟩ ss_subB (q_geq rfl rfl) ?_
              first | refine JD.calc 30 (by kernel_rfl) rfl ⟨_, rfl, (congrArg Value.bool (decide_eq_false c67))⟩ ss_subB (q_pickTv (v := .bool _) rfl (decide_eq_true c68) rfl) ?_ | refine JD.calc 30 (by kernel_rfl) rfl ⟨_, rfl, (congrArg Value.bool (decide_eq_false c67))⟩ ss_subB (q_pickT rfl (decide_eq_true c68)) ?_
              first | refine JD.calc 31 (by kernel_rfl) rfl trivial ss_subB (q_pickFv (v := .bool _) rfl (decide_eq_false c67) rfl) ?_ | refine JD.calc 31 (by kernel_rfl) rfl trivial ss_subB (q_pickF rfl (decide_eq_false c67)) ?_
              first | refine JD.calc 32 (by kernel_rfl) rfl trivial ss_subB (q_mvv (v := .bool _) rfl) ?_ | refine JD.calc 32 (by kernel_rfl) rfl trivial ss_subB (q_mv) ?_
              refine JD.pass 33 (by kernel_rfl) rfl rfl (congrArg Value.bool (decide_eq_true c72)) ss_subB ?_
              refine JD.pass 34 (by kernel_rfl) rfl rfl (congrArg Value.bool (decide_eq_true c72)) ss_subB ?_
              refine JD.pass 35 (by kernel_rfl) rfl rfl (congrArg Value.bool (decide_eq_true c72)) ss_subB ?_
              refine JD.passU 36 (by kernel_rfl) rfl rfl rfl ss_subB ?_
              refine JD.passU 37 (by kernel_rfl) rfl rfl rfl ss_subB ?_
              refine JD.passU 38 (by kernel_rfl) rfl rfl rfl ss_subB ?_
              refine JD.passU 39 (by kernel_rfl) rfl rfl rfl ss_subB ?_
              refine JD.passU 40 (by kernel_rfl) rfl rfl rfl ss_subB ?_
              refine JD.passU 41 (by kernel_rfl) rfl rfl rfl ss_subB ?_
              refine JD.passU 42 (by kernel_rfl) rfl rfl rfl ss_subB ?_
              refine JD.passU 43 (by kernel_rfl) rfl rfl rfl ss_subB ?_
              refine JD.passU 44 (by kernel_rfl) rfl rfl rfl ss_subB ?_
              refine JD.passU 45 (by kernel_rfl) rfl rfl rfl ss_subB ?_
              refine JD.passU 46 (by kernel_rfl) rfl rfl rfl ss_subB ?_
              refine JD.passU 47 (by kernel_rfl) rfl rfl rfl ss_subB ?_
              refine JD.pass 48 (by kernel_rfl) rfl rfl (congrArg Value.bool (decide_eq_true c72)) ss_subB ?_
              first | refine JD.calc 49 (by kernel_rfl) rfl trivial ss_subB (q_pickTv (v := .bool _) rfl (decide_eq_true c72) rfl) ?_ | refine JD.calc 49 (by kernel_rfl) rfl trivial ss_subB (q_pickT rfl (decide_eq_true c72)) ?_
              refine JD.done (by kernel_rfl) ?_ _
              --
              refine J.condT rfl rfl ?_
              refine J.seq ?_
              refine J.region ?_
              first | refine o_q (q_asv (v := .bool _) rfl) ?_ | refine o_q (q_as) ?_
              refine JL.nil ?_
              replace hm := inr_onward hm hk31
              refine J.ret ?_
              obtain rfl := Option.some.inj hm
              exact ret_ok (fn := Try.f16) rfl (.tmp rfl .nil) rfl
            ·
              replace hm := ite_F c72 hm
              by_cases c73 : 0 < (i26 : Int)
              ·
                replace hm := ite_T c73 hm
                obtain ⟨k74, hm⟩ := chk64_some hm
                obtain ⟨i76, x75, hi77, hl78, hx79, hm⟩ := nth_some hm
                obtain ⟨us80, hc81, hR82⟩ := Sls.at f24 hx79
                obtain ⟨g83, p84, n85, c86, rfl, f87⟩ := hR82
                refine J.drawB [] [] ?_
                first | refine JD.calc 0 (by kernel_rfl) rfl trivial ss_subB (q_mvv (v := .bool _) rfl) ?_ | refine JD.calc 0 (by kernel_rfl) rfl trivial ss_subB (q_mv) ?_
                refine JD.calc 1 (by kernel_rfl) rfl trivial ss_subB (q_not rfl) ?_
                first | refine JD.calc 2 (by kernel_rfl) rfl trivial ss_subB (q_mvv (v := .bool _) rfl) ?_ | refine JD.calc 2 (by kernel_rfl) rfl trivial ss_subB (q_mv) ?_
                first | refine JD.calc 3 (by kernel_rfl) rfl ⟨_, rfl, (congrArg Value.bool (congrArg Bool.not (show y52 = true from c53)))⟩ ss_subB (q_mvv (v := .slice _ _ _) rfl) ?_ | refine JD.calc 3 (by kernel_rfl) rfl ⟨_, rfl, (congrArg Value.bool (congrArg Bool.not (show y52 = true from c53)))⟩ ss_subB (q_mv) ?_
                first | refine JD.calc 4 (by kernel_rfl) rfl ⟨_, rfl, (congrArg Value.bool (congrArg Bool.not (show y52 = true from c53)))⟩ ss_subB (q_mvv (v := .int _ _) rfl) ?_ | refine JD.calc 4 (by kernel_rfl) rfl ⟨_, rfl, (congrArg Value.bool (congrArg Bool.not (show y52 = true from c53)))⟩ ss_subB (q_mv) ?_
                refine JD.calc 5 (by kernel_rfl) rfl ⟨_, rfl, (congrArg Value.bool (congrArg Bool.not (show y52 = true from c53)))⟩ ss_subB (q_ian rfl rfl rfl (by first | exact hl34 | (rw [Sls.len f24]; exact hl34))) ?_
                refine JD.calc 6 (by kernel_rfl) rfl ⟨_, rfl, (congrArg Value.bool (congrArg Bool.not (show y52 = true from c53)))⟩ ss_subB (q_fa rfl) ?_
                refine JD.loadB 7 (by kernel_rfl) rfl ⟨_, rfl, (congrArg Value.bool (congrArg Bool.not (show y52 = true from c53)))⟩ (q_ldfs (vs := [_, _]) rfl hc40 rfl) ?_
                refine JD.one 8 (by kernel_rfl) ?_
                refine JX.effB rfl rfl ⟨_, rfl, (congrArg Value.bool (congrArg Bool.not (show y52 = true from c53)))⟩ ?_
                refine o_call (rsign_fn (IntR.at (Mo.up f46)) e61) (fun v57 h58 s59 r60 => ?_)
                obtain rfl := (show _ = _ from r60)
                refine JL.nil ⟨rfl, inferInstance, inferInstance, ?_⟩
                refine JD.calc 9 (by kernel_rfl) rfl ⟨_, rfl, (congrArg Value.bool (congrArg Bool.not (show y52 = true from c53)))⟩ ss_subB (q_eql rfl rfl) ?_
                first | refine JD.calc 10 (by kernel_rfl) rfl trivial ss_subB (q_pickFv (v := .bool _) rfl (congrArg Bool.not (show y52 = true from c53)) rfl) ?_ | refine JD.calc 10 (by kernel_rfl) rfl trivial ss_subB (q_pickF rfl (congrArg Bool.not (show y52 = true from c53))) ?_
                first | refine JD.calc 11 (by kernel_rfl) rfl trivial ss_subB (q_mvv (v := .bool _) rfl) ?_ | refine JD.calc 11 (by kernel_rfl) rfl trivial ss_subB (q_mv) ?_
                first | refine JD.calc 12 (by kernel_rfl) rfl ⟨_, rfl, (congrArg Value.bool (decide_eq_false c63))⟩ ss_subB (q_mvv (v := .slice _ _ _) rfl) ?_ | refine JD.calc 12 (by kernel_rfl) rfl ⟨_, rfl, (congrArg Value.bool (decide_eq_false c63))⟩ ss_subB (q_mv) ?_
                first | refine JD.calc 13 (by kernel_rfl) rfl ⟨_, rfl, (congrArg Value.bool (decide_eq_false c63))⟩ ss_subB (q_mvv (v := .int _ _) rfl) ?_ | refine JD.calc 13 (by kernel_rfl) rfl ⟨_, rfl, (congrArg Value.bool (decide_eq_false c63))⟩ ss_subB (q_mv) ?_
                refine JD.calc 14 (by kernel_rfl) rfl ⟨_, rfl, (congrArg Value.bool (decide_eq_false c63))⟩ ss_subB (q_ian rfl rfl rfl (by first | exact hl34 | (rw [Sls.len f24]; exact hl34))) ?_
                refine JD.calc 15 (by kernel_rfl) rfl ⟨_, rfl, (congrArg Value.bool (decide_eq_false c63))⟩ ss_subB (q_fa rfl) ?_
                refine JD.loadB 16 (by kernel_rfl) rfl ⟨_, rfl, (congrArg Value.bool (decide_eq_false c63))⟩ (q_ldf rfl (hc40.cell (j := 0) rfl)) ?_
                refine JD.calc 17 (by kernel_rfl) rfl ⟨_, rfl, (congrArg Value.bool (decide_eq_false c63))⟩ ss_subB (q_lss rfl rfl) ?_
                first | refine JD.calc 18 (by kernel_rfl) rfl trivial ss_subB (q_pickFv (v := .bool _) rfl (decide_eq_false c63) rfl) ?_ | refine JD.calc 18 (by kernel_rfl) rfl trivial ss_subB (q_pickF rfl (decide_eq_false c63)) ?_
                first | refine JD.calc 19 (by kernel_rfl) rfl trivial ss_subB (q_mvv (v := .bool _) rfl) ?_ | refine JD.calc 19 (by kernel_rfl) rfl trivial ss_subB (q_mv) ?_
                first | refine JD.calc 20 (by kernel_rfl) rfl ⟨_, rfl, (congrArg Value.bool (decide_eq_false c67))⟩ ss_subB (q_mvv (v := .int _ _) rfl) ?_ | refine JD.calc 20 (by kernel_rfl) rfl ⟨_, rfl, (congrArg Value.bool (decide_eq_false c67))⟩ ss_subB (q_mv) ?_
                refine JD.calc 21 (by kernel_rfl) rfl ⟨_, rfl, (congrArg Value.bool (decide_eq_false c67))⟩ ss_subB (q_geq rfl rfl) ?_
                first | refine JD.calc 22 (by kernel_rfl) rfl ⟨_, rfl, (congrArg Value.bool (decide_eq_false c67))⟩ ss_subB (q_mvv (v := .bool _) rfl) ?_ | refine JD.calc 22 (by kernel_rfl) rfl ⟨_, rfl, (congrArg Value.bool (decide_eq_false c67))⟩ ss_subB (q_mv) ?_
                first | refine JD.calc 23 (by kernel_rfl) rfl ⟨_, rfl, (congrArg Value.bool (decide_eq_true c68))⟩ ss_subB (q_mvv (v := .slice _ _ _) rfl) ?_ | refine JD.calc 23 (by kernel_rfl) rfl ⟨_, rfl, (congrArg Value.bool (decide_eq_true c68))⟩ ss_subB (q_mv) ?_
                first | refine JD.calc 24 (by kernel_rfl) rfl ⟨_, rfl, (congrArg Value.bool (decide_eq_true c68))⟩ ss_subB (q_mvv (v := .int _ _) rfl) ?_ | refine JD.calc 24 (by kernel_rfl) rfl ⟨_, rfl, (congrArg Value.bool (decide_eq_true c68))⟩ ss_subB (q_mv) ?_
                refine JD.calc 25 (by kernel_rfl) rfl ⟨_, rfl, (congrArg Value.bool (decide_eq_true c68))⟩ ss_subB (q_ian rfl rfl rfl (by first | exact hl34 | (rw [Sls.len f24]; exact hl34))) ?_
                refine JD.calc 26 (by kernel_rfl) rfl ⟨_, rfl, (congrArg Value.bool (decide_eq_true c68))⟩ ss_subB (q_fa rfl) ?_
                refine JD.loadB 27 (by kernel_rfl) rfl ⟨_, rfl, (congrArg Value.bool (decide_eq_true c68))⟩ (q_ldf rfl (hc40.cell (j := 0) rfl)) ?_
                first | refine JD.calc 28 (by kernel_rfl) rfl ⟨_, rfl, (congrArg Value.bool (decide_eq_true c68))⟩ ss_subB (q_mvv (v := .int _ _) rfl) ?_ | refine JD.calc 28 (by kernel_rfl) rfl ⟨_, rfl, (congrArg Value.bool (decide_eq_true c68))⟩ ss_subB (q_mv) ?_
                refine JD.calc 29 (by kernel_rfl) rfl ⟨_, rfl, (congrArg Value.bool (decide_eq_true c68))⟩ ss_subB (q_geq rfl rfl) ?_
                first | refine JD.calc 30 (by kernel_rfl) rfl ⟨_, rfl, (congrArg Value.bool (decide_eq_false c67))⟩ ss_subB (q_pickTv (v := .bool _) rfl (decide_eq_true c68) rfl) ?_ | refine JD.calc 30 (by kernel_rfl) rfl ⟨_, rfl, (congrArg Value.bool (decide_eq_false c67))⟩ ss_subB (q_pickT rfl (decide_eq_true c68)) ?_
                first | refine JD.calc 31 (by kernel_rfl) rfl trivial ss_subB (q_pickFv (v := .bool _) rfl (decide_eq_false c67) rfl) ?_ | refine JD.calc 31 (by kernel_rfl) rfl trivial ss_subB (q_pickF rfl (decide_eq_false c67)) ?_
                first | refine JD.calc 32 (by kernel_rfl) rfl trivial ss_subB (q_mvv (v := .bool _) rfl) ?_ | refine JD.calc 32 (by kernel_rfl) rfl trivial ss_subB (q_mv) ?_
                first | refine JD.calc 33 (by kernel_rfl) rfl ⟨_, rfl, (congrArg Value.bool (decide_eq_false c72))⟩ ss_subB (q_mvv (v := .int _ _) rfl) ?_ | refine JD.calc 33 (by kernel_rfl) rfl ⟨_, rfl, (congrArg Value.bool (decide_eq_false c72))⟩ ss_subB (q_mv) ?_
                refine JD.calc 34 (by kernel_rfl) rfl ⟨_, rfl, (congrArg Value.bool (decide_eq_false c72))⟩ ss_subB (q_gtr rfl rfl) ?_
                first | refine JD.calc 35 (by kernel_rfl) rfl ⟨_, rfl, (congrArg Value.bool (decide_eq_false c72))⟩ ss_subB (q_mvv (v := .bool _) rfl) ?_ | refine JD.calc 35 (by kernel_rfl) rfl ⟨_, rfl, (congrArg Value.bool (decide_eq_false c72))⟩ ss_subB (q_mv) ?_
                first | refine JD.calc 36 (by kernel_rfl) rfl ⟨_, rfl, (congrArg Value.bool (decide_eq_true c73))⟩ ss_subB (q_mvv (v := .slice _ _ _) rfl) ?_ | refine JD.calc 36 (by kernel_rfl) rfl ⟨_, rfl, (congrArg Value.bool (decide_eq_true c73))⟩ ss_subB (q_mv) ?_
                first | refine JD.calc 37 (by kernel_rfl) rfl ⟨_, rfl, (congrArg Value.bool (decide_eq_true c73))⟩ ss_subB (q_mvv (v := .int _ _) rfl) ?_ | refine JD.calc 37 (by kernel_rfl) rfl ⟨_, rfl, (congrArg Value.bool (decide_eq_true c73))⟩ ss_subB (q_mv) ?_
                refine JD.calc 38 (by kernel_rfl) rfl ⟨_, rfl, (congrArg Value.bool (decide_eq_true c73))⟩ ss_subB (q_sub rfl rfl (wi64 k74)) ?_
                refine JD.calc 39 (by kernel_rfl) rfl ⟨_, rfl, (congrArg Value.bool (decide_eq_true c73))⟩ ss_subB (q_ian rfl rfl hi77 (by first | exact hl78 | (rw [Sls.len f24]; exact hl78))) ?_
                refine JD.calc 40 (by kernel_rfl) rfl ⟨_, rfl, (congrArg Value.bool (decide_eq_true c73))⟩ ss_subB (q_fa rfl) ?_
                refine JD.loadB 41 (by kernel_rfl) rfl ⟨_, rfl, (congrArg Value.bool (decide_eq_true c73))⟩ (q_ldf rfl (hc81.cell (j := 0) rfl)) ?_
                first | refine JD.calc 42 (by kernel_rfl) rfl ⟨_, rfl, (congrArg Value.bool (decide_eq_true c73))⟩ ss_subB (q_mvv (v := .slice _ _ _) rfl) ?_ | refine JD.calc 42 (by kernel_rfl) rfl ⟨_, rfl, (congrArg Value.bool (decide_eq_true c73))⟩ ss_subB (q_mv) ?_
                first | refine JD.calc 43 (by kernel_rfl) rfl ⟨_, rfl, (congrArg Value.bool (decide_eq_true c73))⟩ ss_subB (q_mvv (v := .int _ _) rfl) ?_ | refine JD.calc 43 (by kernel_rfl) rfl ⟨_, rfl, (congrArg Value.bool (decide_eq_true c73))⟩ ss_subB (q_mv) ?_
                refine JD.calc 44 (by kernel_rfl) rfl ⟨_, rfl, (congrArg Value.bool (decide_eq_true c73))⟩ ss_subB (q_ian rfl rfl rfl (by first | exact hl34 | (rw [Sls.len f24]; exact hl34))) ?_
                refine JD.calc 45 (by kernel_rfl) rfl ⟨_, rfl, (congrArg Value.bool (decide_eq_true c73))⟩ ss_subB (q_fa rfl) ?_
                refine JD.loadB 46 (by kernel_rfl) rfl ⟨_, rfl, (congrArg Value.bool (decide_eq_true c73))⟩ (q_ldf rfl (hc40.cell (j := 0) rfl)) ?_
                refine JD.calc 47 (by kernel_rfl) rfl ⟨_, rfl, (congrArg Value.bool (decide_eq_true c73))⟩ ss_subB (q_geq rfl rfl) ?_
                first | refine JD.calc 48 (by kernel_rfl) rfl ⟨_, rfl, (congrArg Value.bool (decide_eq_false c72))⟩ ss_subB (q_pickTv (v := .bool _) rfl (decide_eq_true c73) rfl) ?_ | refine JD.calc 48 (by kernel_rfl) rfl ⟨_, rfl, (congrArg Value.bool (decide_eq_false c72))⟩ ss_subB (q_pickT rfl (decide_eq_true c73)) ?_
                first | refine JD.calc 49 (by kernel_rfl) rfl trivial ss_subB (q_pickFv (v := .bool _) rfl (decide_eq_false c72) rfl) ?_ | refine JD.calc 49 (by kernel_rfl) rfl trivial ss_subB (q_pickF rfl (decide_eq_false c72)) ?_
                refine JD.done (by kernel_rfl) ?_ _
                --
                by_cases c91 : x33.Col ≤ x75.Col
                ·
                  replace hm := ite_T c91 hm
                  refine J.condT rfl (decide_eq_true c91) ?_
                  refine J.seq ?_
                  refine J.region ?_
                  first | refine o_q (q_asv (v := .bool _) rfl) ?_ | refine o_q (q_as) ?_
                  refine JL.nil ?_
                  replace hm := inr_onward hm hk31
                  refine J.ret ?_
                  obtain rfl := Option.some.inj hm
                  exact ret_ok (fn := Try.f16) rfl (.tmp rfl .nil) rfl
                ·
                  replace hm := ite_F c91 hm
                  refine J.condF rfl (decide_eq_false c91) ?_
                  refine J.skip ?_
                  refine J.region ?_
                  first | refine o_q (q_mvv (v := .int _ _) rfl) ?_ | refine o_q (q_mv) ?_
                  refine o_q (q_add rfl rfl (wi64 k36)) ?_
                  first | refine o_q (q_asv (v := .int _ _) rfl) ?_ | refine o_q (q_as) ?_
                  refine JL.nil ?_
                  replace hm := inl_onward hm hk31
                  exact ⟨(i26 + 1), rfl, ⟨rfl, rfl, trivial⟩, ⟨rfl, trivial⟩, ⟨hm, inferInstance⟩, (muL hl34), inferInstance⟩
              ·
                replace hm := ite_F c73 hm
                refine J.drawB [] [] ?_
                first | refine JD.calc 0 (by kernel_rfl) rfl trivial ss_subB (q_mvv (v := .bool _) rfl) ?_ | refine JD.calc 0 (by kernel_rfl) rfl trivial ss_subB (q_mv) ?_
                refine JD.calc 1 (by kernel_rfl) rfl trivial ss_subB (q_not rfl) ?_
                first | refine JD.calc 2 (by kernel_rfl) rfl trivial ss_subB (q_mvv (v := .bool _) rfl) ?_ | refine JD.calc 2 (by kernel_rfl) rfl trivial ss_subB (q_mv) ?_
                first | refine JD.calc 3 (by kernel_rfl) rfl ⟨_, rfl, (congrArg Value.bool (congrArg Bool.not (show y52 = true from c53)))⟩ ss_subB (q_mvv (v := .slice _ _ _) rfl) ?_ | refine JD.calc 3 (by kernel_rfl) rfl ⟨_, rfl, (congrArg Value.bool (congrArg Bool.not (show y52 = true from c53)))⟩ ss_subB (q_mv) ?_
                first | refine JD.calc 4 (by kernel_rfl) rfl ⟨_, rfl, (congrArg Value.bool (congrArg Bool.not (show y52 = true from c53)))⟩ ss_subB (q_mvv (v := .int _ _) rfl) ?_ | refine JD.calc 4 (by kernel_rfl) rfl ⟨_, rfl, (congrArg Value.bool (congrArg Bool.not (show y52 = true from c53)))⟩ ss_subB (q_mv) ?_
                refine JD.calc 5 (by kernel_rfl) rfl ⟨_, rfl, (congrArg Value.bool (congrArg Bool.not (show y52 = true from c53)))⟩ ss_subB (q_ian rfl rfl rfl (by first | exact hl34 | (rw [Sls.len f24]; exact hl34))) ?_
                refine JD.calc 6 (by kernel_rfl) rfl ⟨_, rfl, (congrArg Value.bool (congrArg Bool.not (show y52 = true from c53)))⟩ ss_subB (q_fa rfl) ?_
                refine JD.loadB 7 (by kernel_rfl) rfl ⟨_, rfl, (congrArg Value.bool (congrArg Bool.not (show y52 = true from c53)))⟩ (q_ldfs (vs := [_, _]) rfl hc40 rfl) ?_
                refine JD.one 8 (by kernel_rfl) ?_
                refine JX.effB rfl rfl ⟨_, rfl, (congrArg Value.bool (congrArg Bool.not (show y52 = true from c53)))⟩ ?_
                refine o_call (rsign_fn (IntR.at (Mo.up f46)) e61) (fun v57 h58 s59 r60 => ?_)
                obtain rfl := (show _ = _ from r60)
                refine JL.nil ⟨rfl, inferInstance, inferInstance, ?_⟩
                refine JD.calc 9 (by kernel_rfl) rfl ⟨_, rfl, (congrArg Value.bool (congrArg Bool.not (show y52 = true from c53)))⟩ ss_subB (q_eql rfl rfl) ?_
                first | refine JD.calc 10 (by kernel_rfl) rfl trivial ss_subB (q_pickFv (v := .bool _) rfl (congrArg Bool.not (show y52 = true from c53)) rfl) ?_ | refine JD.calc 10 (by kernel_rfl) rfl trivial ss_subB (q_pickF rfl (congrArg Bool.not (show y52 = true from c53))) ?_
                first | refine JD.calc 11 (by kernel_rfl) rfl trivial ss_subB (q_mvv (v := .bool _) rfl) ?_ | refine JD.calc 11 (by kernel_rfl) rfl trivial ss_subB (q_mv) ?_
                first | refine JD.calc 12 (by kernel_rfl) rfl ⟨_, rfl, (congrArg Value.bool (decide_eq_false c63))⟩ ss_subB (q_mvv (v := .slice _ _ _) rfl) ?_ | refine JD.calc 12 (by kernel_rfl) rfl ⟨_, rfl, (congrArg Value.bool (decide_eq_false c63))⟩ ss_subB (q_mv) ?_
                first | refine JD.calc 13 (by kernel_rfl) rfl ⟨_, rfl, (congrArg Value.bool (decide_eq_false c63))⟩ ss_subB (q_mvv (v := .int _ _) rfl) ?_ | refine JD.calc 13 (by kernel_rfl) rfl ⟨_, rfl, (congrArg Value.bool (decide_eq_false c63))⟩ ss_subB (q_mv) ?_
                refine JD.calc 14 (by kernel_rfl) rfl ⟨_, rfl, (congrArg Value.bool (decide_eq_false c63))⟩ ss_subB (q_ian rfl rfl rfl (by first | exact hl34 | (rw [Sls.len f24]; exact hl34))) ?_
                refine JD.calc 15 (by kernel_rfl) rfl ⟨_, rfl, (congrArg Value.bool (decide_eq_false c63))⟩ ss_subB (q_fa rfl) ?_
                refine JD.loadB 16 (by kernel_rfl) rfl ⟨_, rfl, (congrArg Value.bool (decide_eq_false c63))⟩ (q_ldf rfl (hc40.cell (j := 0) rfl)) ?_
                refine JD.calc 17 (by kernel_rfl) rfl ⟨_, rfl, (congrArg Value.bool (decide_eq_false c63))⟩ ss_subB (q_lss rfl rfl) ?_
                first | refine JD.calc 18 (by kernel_rfl) rfl trivial ss_subB (q_pickFv (v := .bool _) rfl (decide_eq_false c63) rfl) ?_ | refine JD.calc 18 (by kernel_rfl) rfl trivial ss_subB (q_pickF rfl (decide_eq_false c63)) ?_
                first | refine JD.calc 19 (by kernel_rfl) rfl trivial ss_subB (q_mvv (v := .bool _) rfl) ?_ | refine JD.calc 19 (by kernel_rfl) rfl trivial ss_subB (q_mv) ?_
                first | refine JD.calc 20 (by kernel_rfl) rfl ⟨_, rfl, (congrArg Value.bool (decide_eq_false c67))⟩ ss_subB (q_mvv (v := .int _ _) rfl) ?_ | refine JD.calc 20 (by kernel_rfl) rfl ⟨_, rfl, (congrArg Value.bool (decide_eq_false c67))⟩ ss_subB (q_mv) ?_
                refine JD.calc 21 (by kernel_rfl) rfl ⟨_, rfl, (congrArg Value.bool (decide_eq_false c67))⟩ ss_subB (q_geq rfl rfl) ?_
                first | refine JD.calc 22 (by kernel_rfl) rfl ⟨_, rfl, (congrArg Value.bool (decide_eq_false c67))⟩ ss_subB (q_mvv (v := .bool _) rfl) ?_ | refine JD.calc 22 (by kernel_rfl) rfl ⟨_, rfl, (congrArg Value.bool (decide_eq_false c67))⟩ ss_subB (q_mv) ?_
                first | refine JD.calc 23 (by kernel_rfl) rfl ⟨_, rfl, (congrArg Value.bool (decide_eq_true c68))⟩ ss_subB (q_mvv (v := .slice _ _ _) rfl) ?_ | refine JD.calc 23 (by kernel_rfl) rfl ⟨_, rfl, (congrArg Value.bool (decide_eq_true c68))⟩ ss_subB (q_mv) ?_
                first | refine JD.calc 24 (by kernel_rfl) rfl ⟨_, rfl, (congrArg Value.bool (decide_eq_true c68))⟩ ss_subB (q_mvv (v := .int _ _) rfl) ?_ | refine JD.calc 24 (by kernel_rfl) rfl ⟨_, rfl, (congrArg Value.bool (decide_eq_true c68))⟩ ss_subB (q_mv) ?_
                refine JD.calc 25 (by kernel_rfl) rfl ⟨_, rfl, (congrArg Value.bool (decide_eq_true c68))⟩ ss_subB (q_ian rfl rfl rfl (by first | exact hl34 | (rw [Sls.len f24]; exact hl34))) ?_
                refine JD.calc 26 (by kernel_rfl) rfl ⟨_, rfl, (congrArg Value.bool (decide_eq_true c68))⟩ ss_subB (q_fa rfl) ?_
                refine JD.loadB 27 (by kernel_rfl) rfl ⟨_, rfl, (congrArg Value.bool (decide_eq_true c68))⟩ (q_ldf rfl (hc40.cell (j := 0) rfl)) ?_
                first | refine JD.calc 28 (by kernel_rfl) rfl ⟨_, rfl, (congrArg Value.bool (decide_eq_true c68))⟩ ss_subB (q_mvv (v := .int _ _) rfl) ?_ | refine JD.calc 28 (by kernel_rfl) rfl ⟨_, rfl, (congrArg Value.bool (decide_eq_true c68))⟩ ss_subB (q_mv) ?_
                refine JD.calc 29 (by kernel_rfl) rfl ⟨_, rfl, (congrArg Value.bool (decide_eq_true c68))⟩ ss_subB (q_geq rfl rfl) ?_
                first | refine JD.calc 30 (by kernel_rfl) rfl ⟨_, rfl, (congrArg Value.bool (decide_eq_false c67))⟩ ss_subB (q_pickTv (v := .bool _) rfl (decide_eq_true c68) rfl) ?_ | refine JD.calc 30 (by kernel_rfl) rfl ⟨_, rfl, (congrArg Value.bool (decide_eq_false c67))⟩ ss_subB (q_pickT rfl (decide_eq_true c68)) ?_
                first | refine JD.calc 31 (by kernel_rfl) rfl trivial ss_subB (q_pickFv (v := .bool _) rfl (decide_eq_false c67) rfl) ?_ | refine JD.calc 31 (by kernel_rfl) rfl trivial ss_subB (q_pickF rfl (decide_eq_false c67)) ?_
                first | refine JD.calc 32 (by kernel_rfl) rfl trivial ss_subB (q_mvv (v := .bool _) rfl) ?_ | refine JD.calc 32 (by kernel_rfl) rfl trivial ss_subB (q_mv) ?_
                first | refine JD.calc 33 (by kernel_rfl) rfl ⟨_, rfl, (congrArg Value.bool (decide_eq_false c72))⟩ ss_subB (q_mvv (v := .int _ _) rfl) ?_ | refine JD.calc 33 (by kernel_rfl) rfl ⟨_, rfl, (congrArg Value.bool (decide_eq_false c72))⟩ ss_subB (q_mv) ?_
                refine JD.calc 34 (by kernel_rfl) rfl ⟨_, rfl, (congrArg Value.bool (decide_eq_false c72))⟩ ss_subB (q_gtr rfl rfl) ?_
                first | refine JD.calc 35 (by kernel_rfl) rfl ⟨_, rfl, (congrArg Value.bool (decide_eq_false c72))⟩ ss_subB (q_mvv (v := .bool _) rfl) ?_ | refine JD.calc 35 (by kernel_rfl) rfl ⟨_, rfl, (congrArg Value.bool (decide_eq_false c72))⟩ ss_subB (q_mv) ?_
                refine JD.pass 36 (by kernel_rfl) rfl rfl (congrArg Value.bool (decide_eq_false c73)) ss_subB ?_
                refine JD.pass 37 (by kernel_rfl) rfl rfl (congrArg Value.bool (decide_eq_false c73)) ss_subB ?_
                refine JD.pass 38 (by kernel_rfl) rfl rfl (congrArg Value.bool (decide_eq_false c73)) ss_subB ?_
                refine JD.pass 39 (by kernel_rfl) rfl rfl (congrArg Value.bool (decide_eq_false c73)) ss_subB ?_
                refine JD.pass 40 (by kernel_rfl) rfl rfl (congrArg Value.bool (decide_eq_false c73)) ss_subB ?_
                refine JD.pass 41 (by kernel_rfl) rfl rfl (congrArg Value.bool (decide_eq_false c73)) ss_subB ?_
                refine JD.pass 42 (by kernel_rfl) rfl rfl (congrArg Value.bool (decide_eq_false c73)) ss_subB ?_
                refine JD.pass 43 (by kernel_rfl) rfl rfl (congrArg Value.bool (decide_eq_false c73)) ss_subB ?_
                refine JD.pass 44 (by kernel_rfl) rfl rfl (congrArg Value.bool (decide_eq_false c73)) ss_subB ?_
                refine JD.pass 45 (by kernel_rfl) rfl rfl (congrArg Value.bool (decide_eq_false c73)) ss_subB ?_
                refine JD.pass 46 (by kernel_rfl) rfl rfl (congrArg Value.bool (decide_eq_false c73)) ss_subB ?_
                refine JD.pass 47 (by kernel_rfl) rfl rfl (congrArg Value.bool (decide_eq_false c73)) ss_subB ?_
                first | refine JD.calc 48 (by kernel_rfl) rfl ⟨_, rfl, (congrArg Value.bool (decide_eq_false c72))⟩ ss_subB (q_pickFv (v := .bool _) rfl (decide_eq_false c73) rfl) ?_ | refine JD.calc 48 (by kernel_rfl) rfl ⟨_, rfl, (congrArg Value.bool (decide_eq_false c72))⟩ ss_subB (q_pickF rfl (decide_eq_false c73)) ?_
                first | refine JD.calc 49 (by kernel_rfl) rfl trivial ss_subB (q_pickFv (v := .bool _) rfl (decide_eq_false c72) rfl) ?_ | refine JD.calc 49 (by kernel_rfl) rfl trivial ss_subB (q_pickF rfl (decide_eq_false c72)) ?_
                refine JD.done (by kernel_rfl) ?_ _
                --
                refine J.condF rfl rfl ?_
                refine J.skip ?_
                refine J.region ?_
                first | refine o_q (q_mvv (v := .int _ _) rfl) ?_ | refine o_q (q_mv) ?_
                refine o_q (q_add rfl rfl (wi64 k36)) ?_
                first | refine o_q (q_asv (v := .int _ _) rfl) ?_ | refine o_q (q_as) ?_
                refine JL.nil ?_
                replace hm := inl_onward hm hk31
                exact ⟨(i26 + 1), rfl, ⟨rfl, rfl, trivial⟩, ⟨rfl, trivial⟩, ⟨hm, inferInstance⟩, (muL hl34), inferInstance⟩
          ·
            replace hm := ite_F c68 hm
            by_cases c92 : 0 < (i26 : Int)
            ·
              replace hm := ite_T c92 hm
              obtain ⟨k93, hm⟩ := chk64_some hm
              obtain ⟨i95, x94, hi96, hl97, hx98, hm⟩ := nth_some hm
              obtain ⟨us99, hc100, hR101⟩ := Sls.at f24 hx98
              obtain ⟨g102, p103, n104, c105, rfl, f106⟩ := hR101
              refine J.drawB [] [] ?_
              first | refine JD.calc 0 (by kernel_rfl) rfl trivial ss_subB (q_mvv (v := .bool _) rfl) ?_ | refine JD.calc 0 (by kernel_rfl) rfl trivial ss_subB (q_mv) ?_
              refine JD.calc 1 (by kernel_rfl) rfl trivial ss_subB (q_not rfl) ?_
              first | refine JD.calc 2 (by kernel_rfl) rfl trivial ss_subB (q_mvv (v := .bool _) rfl) ?_ | refine JD.calc 2 (by kernel_rfl) rfl trivial ss_subB (q_mv) ?_
              first | refine JD.calc 3 (by kernel_rfl) rfl ⟨_, rfl, (congrArg Value.bool (congrArg Bool.not (show y52 = true from c53)))⟩ ss_subB (q_mvv (v := .slice _ _ _) rfl) ?_ | refine JD.calc 3 (by kernel_rfl) rfl ⟨_, rfl, (congrArg Value.bool (congrArg Bool.not (show y52 = true from c53)))⟩ ss_subB (q_mv) ?_
              first | refine JD.calc 4 (by kernel_rfl) rfl ⟨_, rfl, (congrArg Value.bool (congrArg Bool.not (show y52 = true from c53)))⟩ ss_subB (q_mvv (v := .int _ _) rfl) ?_ | refine JD.calc 4 (by kernel_rfl) rfl ⟨_, rfl, (congrArg Value.bool (congrArg Bool.not (show y52 = true from c53)))⟩ ss_subB (q_mv) ?_
              refine JD.calc 5 (by kernel_rfl) rfl ⟨_, rfl, (congrArg Value.bool (congrArg Bool.not (show y52 = true from c53)))⟩ ss_subB (q_ian rfl rfl rfl (by first | exact hl34 | (rw [Sls.len f24]; exact hl34))) ?_
              refine JD.calc 6 (by kernel_rfl) rfl ⟨_, rfl, (congrArg Value.bool (congrArg Bool.not (show y52 = true from c53)))⟩ ss_subB (q_fa rfl) ?_
              refine JD.loadB 7 (by kernel_rfl) rfl ⟨_, rfl, (congrArg Value.bool (congrArg Bool.not (show y52 = true from c53)))⟩ (q_ldfs (vs := [_, _]) rfl hc40 rfl) ?_
              refine JD.one 8 (by kernel_rfl) ?_
              refine JX.effB rfl rfl ⟨_, rfl, (congrArg Value.bool (congrArg Bool.not (show y52 = true from c53)))⟩ ?_
              refine o_call (rsign_fn (IntR.at (Mo.up f46)) e61) (fun v57 h58 s59 r60 => ?_)
              obtain rfl := (show _ = _ from r60)
              refine JL.nil ⟨rfl, inferInstance, inferInstance, ?_⟩
              refine JD.calc 9 (by kernel_rfl) rfl ⟨_, rfl, (congrArg Value.bool (congrArg Bool.not (show y52 = true from c53)))⟩ ss_subB (q_eql rfl rfl) ?_
              first | refine JD.calc 10 (by kernel_rfl) rfl trivial ss_subB (q_pickFv (v := .bool _) rfl (congrArg Bool.not (show y52 = true from c53)) rfl) ?_ | refine JD.calc 10 (by kernel_rfl) rfl trivial ss_subB (q_pickF rfl (congrArg Bool.not (show y52 = true from c53))) ?_
              first | refine JD.calc 11 (by kernel_rfl) rfl trivial ss_subB (q_mvv (v := .bool _) rfl) ?_ | refine JD.calc 11 (by kernel_rfl) rfl trivial ss_subB (q_mv) ?_
              first | refine JD.calc 12 (by kernel_rfl) rfl ⟨_, rfl, (congrArg Value.bool (decide_eq_false c63))⟩ ss_subB (q_mvv (v := .slice _ _ _) rfl) ?_ | refine JD.calc 12 (by kernel_rfl) rfl ⟨_, rfl, (congrArg Value.bool (decide_eq_false c63))⟩ ss_subB (q_mv) ?_
              first | refine JD.calc 13 (by kernel_rfl) rfl ⟨_, rfl, (congrArg Value.bool (decide_eq_false c63))⟩ ss_subB (q_mvv (v := .int _ _) rfl) ?_ | refine JD.calc 13 (by kernel_rfl) rfl ⟨_, rfl, (congrArg Value.bool (decide_eq_false c63))⟩ ss_subB (q_mv) ?_
              refine JD.calc 14 (by kernel_rfl) rfl ⟨_, rfl, (congrArg Value.bool (decide_eq_false c63))⟩ ss_subB (q_ian rfl rfl rfl (by first | exact hl34 | (rw [Sls.len f24]; exact hl34))) ?_
              refine JD.calc 15 (by kernel_rfl) rfl ⟨_, rfl, (congrArg Value.bool (decide_eq_false c63))⟩ ss_subB (q_fa rfl) ?_
              refine JD.loadB 16 (by kernel_rfl) rfl ⟨_, rfl, (congrArg Value.bool (decide_eq_false c63))⟩ (q_ldf rfl (hc40.cell (j := 0) rfl)) ?_
              refine JD.calc 17 (by kernel_rfl) rfl ⟨_, rfl, (congrArg Value.bool (decide_eq_false c63))⟩ ss_subB (q_lss rfl rfl) ?_
              first | refine JD.calc 18 (by kernel_rfl) rfl trivial ss_subB (q_pickFv (v := .bool _) rfl (decide_eq_false c63) rfl) ?_ | refine JD.calc 18 (by kernel_rfl) rfl trivial ss_subB (q_pickF rfl (decide_eq_false c63)) ?_
              first | refine JD.calc 19 (by kernel_rfl) rfl trivial ss_subB (q_mvv (v := .bool _) rfl) ?_ | refine JD.calc 19 (by kernel_rfl) rfl trivial ss_subB (q_mv) ?_
              first | refine JD.calc 20 (by kernel_rfl) rfl ⟨_, rfl, (congrArg Value.bool (decide_eq_false c67))⟩ ss_subB (q_mvv (v := .int _ _) rfl) ?_ | refine JD.calc 20 (by kernel_rfl) rfl ⟨_, rfl, (congrArg Value.bool (decide_eq_false c67))⟩ ss_subB (q_mv) ?_
              refine JD.calc 21 (by kernel_rfl) rfl ⟨_, rfl, (congrArg Value.bool (decide_eq_false c67))⟩ ss_subB (q_geq rfl rfl) ?_
              first | refine JD.calc 22 (by kernel_rfl) rfl ⟨_, rfl, (congrArg Value.bool (decide_eq_false c67))⟩ ss_subB (q_mvv (v := .bool _) rfl) ?_ | refine JD.calc 22 (by kernel_rfl) rfl ⟨_, rfl, (congrArg Value.bool (decide_eq_false c67))⟩ ss_subB (q_mv) ?_
              refine JD.pass 23 (by kernel_rfl) rfl rfl (congrArg Value.bool (decide_eq_false c68)) ss_subB ?_
              refine JD.pass 24 (by kernel_rfl) rfl rfl (congrArg Value.bool (decide_eq_false c68)) ss_subB ?_
              refine JD.pass 25 (by kernel_rfl) rfl rfl (congrArg Value.bool (decide_eq_false c68)) ss_subB ?_
              refine JD.pass 26 (by kernel_rfl) rfl rfl (congrArg Value.bool (decide_eq_false c68)) ss_subB ?_
              refine JD.pass 27 (by kernel_rfl) rfl rfl (congrArg Value.bool (decide_eq_false c68)) ss_subB ?_
              refine JD.pass 28 (by kernel_rfl) rfl rfl (congrArg Value.bool (decide_eq_false c68)) ss_subB ?_
              refine JD.pass 29 (by kernel_rfl) rfl rfl (congrArg Value.bool (decide_eq_false c68)) ss_subB ?_
              first | refine JD.calc 30 (by kernel_rfl) rfl ⟨_, rfl, (congrArg Value.bool (decide_eq_false c67))⟩ ss_subB (q_pickFv (v := .bool _) rfl (decide_eq_false c68) rfl) ?_ | refine JD.calc 30 (by kernel_rfl) rfl ⟨_, rfl, (congrArg Value.bool (decide_eq_false c67))⟩ ss_subB (q_pickF rfl (decide_eq_false c68)) ?_
              first | refine JD.calc 31 (by kernel_rfl) rfl trivial ss_subB (q_pickFv (v := .bool _) rfl (decide_eq_false c67) rfl) ?_ | refine JD.calc 31 (by kernel_rfl) rfl trivial ss_subB (q_pickF rfl (decide_eq_false c67)) ?_
              first | refine JD.calc 32 (by kernel_rfl) rfl trivial ss_subB (q_mvv (v := .bool _) rfl) ?_ | refine JD.calc 32 (by kernel_rfl) rfl trivial ss_subB (q_mv) ?_
              first | refine JD.calc 33 (by kernel_rfl) rfl ⟨_, rfl, rfl⟩ ss_subB (q_mvv (v := .int _ _) rfl) ?_ | refine JD.calc 33 (by kernel_rfl) rfl ⟨_, rfl, rfl⟩ ss_subB (q_mv) ?_
              refine JD.calc 34 (by kernel_rfl) rfl ⟨_, rfl, rfl⟩ ss_subB (q_gtr rfl rfl) ?_
              first | refine JD.calc 35 (by kernel_rfl) rfl ⟨_, rfl, rfl⟩ ss_subB (q_mvv (v := .bool _) rfl) ?_ | refine JD.calc 35 (by kernel_rfl) rfl ⟨_, rfl, rfl⟩ ss_subB (q_mv) ?_
              first | refine JD.calc 36 (by kernel_rfl) rfl ⟨_, rfl, (congrArg Value.bool (decide_eq_true c92))⟩ ss_subB (q_mvv (v := .slice _ _ _) rfl) ?_ | refine JD.calc 36 (by kernel_rfl) rfl ⟨_, rfl, (congrArg Value.bool (decide_eq_true c92))⟩ ss_subB (q_mv) ?_
              first | refine JD.calc 37 (by kernel_rfl) rfl ⟨_, rfl, (congrArg Value.bool (decide_eq_true c92))⟩ ss_subB (q_mvv (v := .int _ _) rfl) ?_ | refine JD.calc 37 (by kernel_rfl) rfl ⟨_, rfl, (congrArg Value.bool (decide_eq_true c92))⟩ ss_subB (q_mv) ?_
              refine JD.calc 38 (by kernel_rfl) rfl ⟨_, rfl, (congrArg Value.bool (decide_eq_true c92))⟩ ss_subB (q_sub rfl rfl (wi64 k93)) ?_
              refine JD.calc 39 (by kernel_rfl) rfl ⟨_, rfl, (congrArg Value.bool (decide_eq_true c92))⟩ ss_subB (q_ian rfl rfl hi96 (by first | exact hl97 | (rw [Sls.len f24]; exact hl97))) ?_
              refine JD.calc 40 (by kernel_rfl) rfl ⟨_, rfl, (congrArg Value.bool (decide_eq_true c92))⟩ ss_subB (q_fa rfl) ?_
              refine JD.loadB 41 (by kernel_rfl) rfl ⟨_, rfl, (congrArg Value.bool (decide_eq_true c92))⟩ (q_ldf rfl (hc100.cell (j := 0) rfl)) ?_
              first | refine JD.calc 42 (by kernel_rfl) rfl ⟨_, rfl, (congrArg Value.bool (decide_eq_true c92))⟩ ss_subB (q_mvv (v := .slice _ _ _) rfl) ?_ | refine JD.calc 42 (by kernel_rfl) rfl ⟨_, rfl, (congrArg Value.bool (decide_eq_true c92))⟩ ss_subB (q_mv) ?_
              first | refine JD.calc 43 (by kernel_rfl) rfl ⟨_, rfl, (congrArg Value.bool (decide_eq_true c92))⟩ ss_subB (q_mvv (v := .int _ _) rfl) ?_ | refine JD.calc 43 (by kernel_rfl) rfl ⟨_, rfl, (congrArg Value.bool (decide_eq_true c92))⟩ ss_subB (q_mv) ?_
              refine JD.calc 44 (by kernel_rfl) rfl ⟨_, rfl, (congrArg Value.bool (decide_eq_true c92))⟩ ss_subB (q_ian rfl rfl rfl (by first | exact hl34 | (rw [Sls.len f24]; exact hl34))) ?_
              refine JD.calc 45 (by kernel_rfl) rfl ⟨_, rfl, (congrArg Value.bool (decide_eq_true c92))⟩ ss_subB (q_fa rfl) ?_
              refine JD.loadB 46 (by kernel_rfl) rfl ⟨_, rfl, (congrArg Value.bool (decide_eq_true c92))⟩ (q_ldf rfl (hc40.cell (j := 0) rfl)) ?_
              refine JD.calc 47 (by kernel_rfl) rfl ⟨_, rfl, (congrArg Value.bool (decide_eq_true c92))⟩ ss_subB (q_geq rfl rfl) ?_
              first | refine JD.calc 48 (by kernel_rfl) rfl ⟨_, rfl, rfl⟩ ss_subB (q_pickTv (v := .bool _) rfl (decide_eq_true c92) rfl) ?_ | refine JD.calc 48 (by kernel_rfl) rfl ⟨_, rfl, rfl⟩ ss_subB (q_pickT rfl (decide_eq_true c92)) ?_
              first | refine JD.calc 49 (by kernel_rfl) rfl trivial ss_subB (q_pickFv (v := .bool _) rfl rfl rfl) ?_ | refine JD.calc 49 (by kernel_rfl) rfl trivial ss_subB (q_pickF rfl rfl) ?_
              refine JD.done (by kernel_rfl) ?_ _
              --
              by_cases c110 : x33.Col ≤ x94.Col
              ·
                replace hm := ite_T c110 hm
                refine J.condT rfl (decide_eq_true c110) ?_
                refine J.seq ?_
                refine J.region ?_
                first | refine o_q (q_asv (v := .bool _) rfl) ?_ | refine o_q (q_as) ?_
                refine JL.nil ?_
                replace hm := inr_onward hm hk31
                refine J.ret ?_
                obtain rfl := Option.some.inj hm
                exact ret_ok (fn := Try.f16) rfl (.tmp rfl .nil) rfl
              ·
                replace hm := ite_F c110 hm
                refine J.condF rfl (decide_eq_false c110) ?_
                refine J.skip ?_
                refine J.region ?_
                first | refine o_q (q_mvv (v := .int _ _) rfl) ?_ | refine o_q (q_mv) ?_
                refine o_q (q_add rfl rfl (wi64 k36)) ?_
                first | refine o_q (q_asv (v := .int _ _) rfl) ?_ | refine o_q (q_as) ?_
                refine JL.nil ?_
                replace hm := inl_onward hm hk31
                exact ⟨(i26 + 1), rfl, ⟨rfl, rfl, trivial⟩, ⟨rfl, trivial⟩, ⟨hm, inferInstance⟩, (muL hl34), inferInstance⟩
            ·
              replace hm := ite_F c92 hm
              refine J.drawB [] [] ?_
              first | refine JD.calc 0 (by kernel_rfl) rfl trivial ss_subB (q_mvv (v := .bool _) rfl) ?_ | refine JD.calc 0 (by kernel_rfl) rfl trivial ss_subB (q_mv) ?_
              refine JD.calc 1 (by kernel_rfl) rfl trivial ss_subB (q_not rfl) ?_
              first | refine JD.calc 2 (by kernel_rfl) rfl trivial ss_subB (q_mvv (v := .bool _) rfl) ?_ | refine JD.calc 2 (by kernel_rfl) rfl trivial ss_subB (q_mv) ?_
              first | refine JD.calc 3 (by kernel_rfl) rfl ⟨_, rfl, (congrArg Value.bool (congrArg Bool.not (show y52 = true from c53)))⟩ ss_subB (q_mvv (v := .slice _ _ _) rfl) ?_ | refine JD.calc 3 (by kernel_rfl) rfl ⟨_, rfl, (congrArg Value.bool (congrArg Bool.not (show y52 = true from c53)))⟩ ss_subB (q_mv) ?_
              first | refine JD.calc 4 (by kernel_rfl) rfl ⟨_, rfl, (congrArg Value.bool (congrArg Bool.not (show y52 = true from c53)))⟩ ss_subB (q_mvv (v := .int _ _) rfl) ?_ | refine JD.calc 4 (by kernel_rfl) rfl ⟨_, rfl, (congrArg Value.bool (congrArg Bool.not (show y52 = true from c53)))⟩ ss_subB (q_mv) ?_
              refine JD.calc 5 (by kernel_rfl) rfl ⟨_, rfl, (congrArg Value.bool (congrArg Bool.not (show y52 = true from c53)))⟩ ss_subB (q_ian rfl rfl rfl (by first | exact hl34 | (rw [Sls.len f24]; exact hl34))) ?_
              refine JD.calc 6 (by kernel_rfl) rfl ⟨_, rfl, (congrArg Value.bool (congrArg Bool.not (show y52 = true from c53)))⟩ ss_subB (q_fa rfl) ?_
              refine JD.loadB 7 (by kernel_rfl) rfl ⟨_, rfl, (congrArg Value.bool (congrArg Bool.not (show y52 = true from c53)))⟩ (q_ldfs (vs := [_, _]) rfl hc40 rfl) ?_
              refine JD.one 8 (by kernel_rfl) ?_
              refine JX.effB rfl rfl ⟨_, rfl, (congrArg Value.bool (congrArg Bool.not (show y52 = true from c53)))⟩ ?_
              refine o_call (rsign_fn (IntR.at (Mo.up f46)) e61) (fun v57 h58 s59 r60 => ?_)
              obtain rfl := (show _ = _ from r60)
              refine JL.nil ⟨rfl, inferInstance, inferInstance, ?_⟩
              refine JD.calc 9 (by kernel_rfl) rfl ⟨_, rfl, (congrArg Value.bool (congrArg Bool.not (show y52 = true from c53)))⟩ ss_subB (q_eql rfl rfl) ?_
              first | refine JD.calc 10 (by kernel_rfl) rfl trivial ss_subB (q_pickFv (v := .bool _) rfl (congrArg Bool.not (show y52 = true from c53)) rfl) ?_ | refine JD.calc 10 (by kernel_rfl) rfl trivial ss_subB (q_pickF rfl (congrArg Bool.not (show y52 = true from c53))) ?_
              first | refine JD.calc 11 (by kernel_rfl) rfl trivial ss_subB (q_mvv (v := .bool _) rfl) ?_ | refine JD.calc 11 (by kernel_rfl) rfl trivial ss_subB (q_mv) ?_
              first | refine JD.calc 12 (by kernel_rfl) rfl ⟨_, rfl, (congrArg Value.bool (decide_eq_false c63))⟩ ss_subB (q_mvv (v := .slice _ _ _) rfl) ?_ | refine JD.calc 12 (by kernel_rfl) rfl ⟨_, rfl, (congrArg Value.bool (decide_eq_false c63))⟩ ss_subB (q_mv) ?_
              first | refine JD.calc 13 (by kernel_rfl) rfl ⟨_, rfl, (congrArg Value.bool (decide_eq_false c63))⟩ ss_subB (q_mvv (v := .int _ _) rfl) ?_ | refine JD.calc 13 (by kernel_rfl) rfl ⟨_, rfl, (congrArg Value.bool (decide_eq_false c63))⟩ ss_subB (q_mv) ?_
              refine JD.calc 14 (by kernel_rfl) rfl ⟨_, rfl, (congrArg Value.bool (decide_eq_false c63))⟩ ss_subB (q_ian rfl rfl rfl (by first | exact hl34 | (rw [Sls.len f24]; exact hl34))) ?_
              refine JD.calc 15 (by kernel_rfl) rfl ⟨_, rfl, (congrArg Value.bool (decide_eq_false c63))⟩ ss_subB (q_fa rfl) ?_
              refine JD.loadB 16 (by kernel_rfl) rfl ⟨_, rfl, (congrArg Value.bool (decide_eq_false c63))⟩ (q_ldf rfl (hc40.cell (j := 0) rfl)) ?_
              refine JD.calc 17 (by kernel_rfl) rfl ⟨_, rfl, (congrArg Value.bool (decide_eq_false c63))⟩ ss_subB (q_lss rfl rfl) ?_
              first | refine JD.calc 18 (by kernel_rfl) rfl trivial ss_subB (q_pickFv (v := .bool _) rfl (decide_eq_false c63) rfl) ?_ | refine JD.calc 18 (by kernel_rfl) rfl trivial ss_subB (q_pickF rfl (decide_eq_false c63)) ?_
              first | refine JD.calc 19 (by kernel_rfl) rfl trivial ss_subB (q_mvv (v := .bool _) rfl) ?_ | refine JD.calc 19 (by kernel_rfl) rfl trivial ss_subB (q_mv) ?_
              first | refine JD.calc 20 (by kernel_rfl) rfl ⟨_, rfl, (congrArg Value.bool (decide_eq_false c67))⟩ ss_subB (q_mvv (v := .int _ _) rfl) ?_ | refine JD.calc 20 (by kernel_rfl) rfl ⟨_, rfl, (congrArg Value.bool (decide_eq_false c67))⟩ ss_subB (q_mv) ?_
              refine JD.calc 21 (by kernel_rfl) rfl ⟨_, rfl, (congrArg Value.bool (decide_eq_false c67))⟩ ss_subB (q_geq rfl rfl) ?_
              first | refine JD.calc 22 (by kernel_rfl) rfl ⟨_, rfl, (congrArg Value.bool (decide_eq_false c67))⟩ ss_subB (q_mvv (v := .bool _) rfl) ?_ | refine JD.calc 22 (by kernel_rfl) rfl ⟨_, rfl, (congrArg Value.bool (decide_eq_false c67))⟩ ss_subB (q_mv) ?_
              refine JD.pass 23 (by kernel_rfl) rfl rfl (congrArg Value.bool (decide_eq_false c68)) ss_subB ?_
              refine JD.pass 24 (by kernel_rfl) rfl rfl (congrArg Value.bool (decide_eq_false c68)) ss_subB ?_
              refine JD.pass 25 (by kernel_rfl) rfl rfl (congrArg Value.bool (decide_eq_false c68)) ss_subB ?_
              refine JD.pass 26 (by kernel_rfl) rfl rfl (congrArg Value.bool (decide_eq_false c68)) ss_subB ?_
              refine JD.pass 27 (by kernel_rfl) rfl rfl (congrArg Value.bool (decide_eq_false c68)) ss_subB ?_
              refine JD.pass 28 (by kernel_rfl) rfl rfl (congrArg Value.bool (decide_eq_false c68)) ss_subB ?_
              refine JD.pass 29 (by kernel_rfl) rfl rfl (congrArg Value.bool (decide_eq_false c68)) ss_subB ?_
              first | refine JD.calc 30 (by kernel_rfl) rfl ⟨_, rfl, (congrArg Value.bool (decide_eq_false c67))⟩ ss_subB (q_pickFv (v := .bool _) rfl (decide_eq_false c68) rfl) ?_ | refine JD.calc 30 (by kernel_rfl) rfl ⟨_, rfl, (congrArg Value.bool (decide_eq_false c67))⟩ ss_subB (q_pickF rfl (decide_eq_false c68)) ?_
              first | refine JD.calc 31 (by kernel_rfl) rfl trivial ss_subB (q_pickFv (v := .bool _) rfl (decide_eq_false c67) rfl) ?_ | refine JD.calc 31 (by kernel_rfl) rfl trivial ss_subB (q_pickF rfl (decide_eq_false c67)) ?_
              first | refine JD.calc 32 (by kernel_rfl) rfl trivial ss_subB (q_mvv (v := .bool _) rfl) ?_ | refine JD.calc 32 (by kernel_rfl) rfl trivial ss_subB (q_mv) ?_
              first | refine JD.calc 33 (by kernel_rfl) rfl ⟨_, rfl, rfl⟩ ss_subB (q_mvv (v := .int _ _) rfl) ?_ | refine JD.calc 33 (by kernel_rfl) rfl ⟨_, rfl, rfl⟩ ss_subB (q_mv) ?_
              refine JD.calc 34 (by kernel_rfl) rfl ⟨_, rfl, rfl⟩ ss_subB (q_gtr rfl rfl) ?_
              first | refine JD.calc 35 (by kernel_rfl) rfl ⟨_, rfl, rfl⟩ ss_subB (q_mvv (v := .bool _) rfl) ?_ | refine JD.calc 35 (by kernel_rfl) rfl ⟨_, rfl, rfl⟩ ss_subB (q_mv) ?_
              refine JD.pass 36 (by kernel_rfl) rfl rfl (congrArg Value.bool (decide_eq_false c92)) ss_subB ?_
              refine JD.pass 37 (by kernel_rfl) rfl rfl (congrArg Value.bool (decide_eq_false c92)) ss_subB ?_
              refine JD.pass 38 (by kernel_rfl) rfl rfl (congrArg Value.bool (decide_eq_false c92)) ss_subB ?_
              refine JD.pass 39 (by kernel_rfl) rfl rfl (congrArg Value.bool (decide_eq_false c92)) ss_subB ?_
              refine JD.pass 40 (by kernel_rfl) rfl rfl (congrArg Value.bool (decide_eq_false c92)) ss_subB ?_
              refine JD.pass 41 (by kernel_rfl) rfl rfl (congrArg Value.bool (decide_eq_false c92)) ss_subB ?_
              refine JD.pass 42 (by kernel_rfl) rfl rfl (congrArg Value.bool (decide_eq_false c92)) ss_subB ?_
              refine JD.pass 43 (by kernel_rfl) rfl rfl (congrArg Value.bool (decide_eq_false c92)) ss_subB ?_
              refine JD.pass 44 (by kernel_rfl) rfl rfl (congrArg Value.bool (decide_eq_false c92)) ss_subB ?_
              refine JD.pass 45 (by kernel_rfl) rfl rfl (congrArg Value.bool (decide_eq_false c92)) ss_subB ?_
              refine JD.pass 46 (by kernel_rfl) rfl rfl (congrArg Value.bool (decide_eq_false c92)) ss_subB ?_
              refine JD.pass 47 (by kernel_rfl) rfl rfl (congrArg Value.bool (decide_eq_false c92)) ss_subB ?_
              first | refine JD.calc 48 (by kernel_rfl) rfl ⟨_, rfl, rfl⟩ ss_subB (q_pickFv (v := .bool _) rfl (decide_eq_false c92) rfl) ?_ | refine JD.calc 48 (by kernel_rfl) rfl ⟨_, rfl, rfl⟩ ss_subB (q_pickF rfl (decide_eq_false c92)) ?_
              first | refine JD.calc 49 (by kernel_rfl) rfl trivial ss_subB (q_pickFv (v := .bool _) rfl rfl rfl) ?_ | refine JD.calc 49 (by kernel_rfl) rfl trivial ss_subB (q_pickF rfl rfl) ?_
              refine JD.done (by kernel_rfl) ?_ _
              --
              refine J.condF rfl rfl ?_
              refine J.skip ?_
              refine J.region ?_
              first | refine o_q (q_mvv (v := .int _ _) rfl) ?_ | refine o_q (q_mv) ?_
              refine o_q (q_add rfl rfl (wi64 k36)) ?_
              first | refine o_q (q_asv (v := .int _ _) rfl) ?_ | refine o_q (q_as) ?_
              refine JL.nil ?_
              replace hm := inl_onward hm hk31
              exact ⟨(i26 + 1), rfl, ⟨rfl, rfl, trivial⟩, ⟨rfl, trivial⟩, ⟨hm, inferInstance⟩, (muL hl34), inferInstance⟩
    ·
      replace hm := ite_F c53 hm
      refine J.drawB [] [] ?_
      first | refine JD.calc 0 (by kernel_rfl) rfl trivial ss_subB (q_mvv (v := .bool _) rfl) ?_ | refine JD.calc 0 (by kernel_rfl) rfl trivial ss_subB (q_mv) ?_
      refine JD.calc 1 (by kernel_rfl) rfl trivial ss_subB (q_not rfl) ?_
      first | refine JD.calc 2 (by kernel_rfl) rfl trivial ss_subB (q_mvv (v := .bool _) rfl) ?_ | refine JD.calc 2 (by kernel_rfl) rfl trivial ss_subB (q_mv) ?_
      refine JD.pass 3 (by kernel_rfl) rfl rfl (congrArg Value.bool (congrArg Bool.not (show y52 = false from (eq_false_of_ne_true c53)))) ss_subB ?_
      refine JD.pass 4 (by kernel_rfl) rfl rfl (congrArg Value.bool (congrArg Bool.not (show y52 = false from (eq_false_of_ne_true c53)))) ss_subB ?_
      refine JD.pass 5 (by kernel_rfl) rfl rfl (congrArg Value.bool (congrArg Bool.not (show y52 = false from (eq_false_of_ne_true c53)))) ss_subB ?_
      refine JD.pass 6 (by kernel_rfl) rfl rfl (congrArg Value.bool (congrArg Bool.not (show y52 = false from (eq_false_of_ne_true c53)))) ss_subB ?_
      refine JD.pass 7 (by kernel_rfl) rfl rfl (congrArg Value.bool (congrArg Bool.not (show y52 = false from (eq_false_of_ne_true c53)))) ss_subB ?_
      refine JD.pass 8 (by kernel_rfl) rfl rfl (congrArg Value.bool (congrArg Bool.not (show y52 = false from (eq_false_of_ne_true c53)))) ss_subB ?_
      refine JD.pass 9 (by kernel_rfl) rfl rfl (congrArg Value.bool (congrArg Bool.not (show y52 = false from (eq_false_of_ne_true c53)))) ss_subB ?_
      first | refine JD.calc 10 (by kernel_rfl) rfl trivial ss_subB (q_pickTv (v := .bool _) rfl (congrArg Bool.not (show y52 = false from (eq_false_of_ne_true c53))) rfl) ?_ | refine JD.calc 10 (by kernel_rfl) rfl trivial ss_subB (q_pickT rfl (congrArg Bool.not (show y52 = false from (eq_false_of_ne_true c53)))) ?_
      first | refine JD.calc 11 (by kernel_rfl) rfl trivial ss_subB (q_mvv (v := .bool _) rfl) ?_ | refine JD.calc 11 (by kernel_rfl) rfl trivial ss_subB (q_mv) ?_
      refine JD.pass 12 (by kernel_rfl) rfl rfl rfl ss_subB ?_
      refine JD.pass 13 (by kernel_rfl) rfl rfl rfl ss_subB ?_
      refine JD.pass 14 (by kernel_rfl) rfl rfl rfl ss_subB ?_
      refine JD.pass 15 (by kernel_rfl) rfl rfl rfl ss_subB ?_
      refine JD.pass 16 (by kernel_rfl) rfl rfl rfl ss_subB ?_
      refine JD.pass 17 (by kernel_rfl) rfl rfl rfl ss_subB ?_
      first | refine JD.calc 18 (by kernel_rfl) rfl trivial ss_subB (q_pickTv (v := .bool _) rfl rfl rfl) ?_ | refine JD.calc 18 (by kernel_rfl) rfl trivial ss_subB (q_pickT rfl rfl) ?_
      first | refine JD.calc 19 (by kernel_rfl) rfl trivial ss_subB (q_mvv (v := .bool _) rfl) ?_ | refine JD.calc 19 (by kernel_rfl) rfl trivial ss_subB (q_mv) ?_
      refine JD.pass 20 (by kernel_rfl) rfl rfl rfl ss_subB ?_
      refine JD.pass 21 (by kernel_rfl) rfl rfl rfl ss_subB ?_
      refine JD.pass 22 (by kernel_rfl) rfl rfl rfl ss_subB ?_
      refine JD.passU 23 (by kernel_rfl) rfl rfl rfl ss_subB ?_
      refine JD.passU 24 (by kernel_rfl) rfl rfl rfl ss_subB ?_
      refine JD.passU 25 (by kernel_rfl) rfl rfl rfl ss_subB ?_
      refine JD.passU 26 (by kernel_rfl) rfl rfl rfl ss_subB ?_
      refine JD.passU 27 (by kernel_rfl) rfl rfl rfl ss_subB ?_
      refine JD.passU 28 (by kernel_rfl) rfl rfl rfl ss_subB ?_
      refine JD.passU 29 (by kernel_rfl) rfl rfl rfl ss_subB ?_
      refine JD.pass 30 (by kernel_rfl) rfl rfl rfl ss_subB ?_
      first | refine JD.calc 31 (by kernel_rfl) rfl trivial ss_subB (q_pickTv (v := .bool _) rfl rfl rfl) ?_ | refine JD.calc 31 (by kernel_rfl) rfl trivial ss_subB (q_pickT rfl rfl) ?_
      first | refine JD.calc 32 (by kernel_rfl) rfl trivial ss_subB (q_mvv (v := .bool _) rfl) ?_ | refine JD.calc 32 (by kernel_rfl) rfl trivial ss_subB (q_mv) ?_
      refine JD.pass 33 (by kernel_rfl) rfl rfl rfl ss_subB ?_
      refine JD.pass 34 (by kernel_rfl) rfl rfl rfl ss_subB ?_
      refine JD.pass 35 (by kernel_rfl) rfl rfl rfl ss_subB ?_
      refine JD.passU 36 (by kernel_rfl) rfl rfl rfl ss_subB ?_
      refine JD.passU 37 (by kernel_rfl) rfl rfl rfl ss_subB ?_
      refine JD.passU 38 (by kernel_rfl) rfl rfl rfl ss_subB ?_
      refine JD.passU 39 (by kernel_rfl) rfl rfl rfl ss_subB ?_
      refine JD.passU 40 (by kernel_rfl) rfl rfl rfl ss_subB ?_
      refine JD.passU 41 (by kernel_rfl) rfl rfl rfl ss_subB ?_
      refine JD.passU 42 (by kernel_rfl) rfl rfl rfl ss_subB ?_
      refine JD.passU 43 (by kernel_rfl) rfl rfl rfl ss_subB ?_
      refine JD.passU 44 (by kernel_rfl) rfl rfl rfl ss_subB ?_
      refine JD.passU 45 (by kernel_rfl) rfl rfl rfl ss_subB ?_
      refine JD.passU 46 (by kernel_rfl) rfl rfl rfl ss_subB ?_
      refine JD.passU 47 (by kernel_rfl) rfl rfl rfl ss_subB ?_
      refine JD.pass 48 (by kernel_rfl) rfl rfl rfl ss_subB ?_
      first | refine JD.calc 49 (by kernel_rfl) rfl trivial ss_subB (q_pickTv (v := .bool _) rfl rfl rfl) ?_ | refine JD.calc 49 (by kernel_rfl) rfl trivial ss_subB (q_pickT rfl rfl) ?_
      refine JD.done (by kernel_rfl) ?_ _
      --
      refine J.condT rfl rfl ?_
      refine J.seq ?_
      refine J.region ?_
      first | refine o_q (q_asv (v := .bool _) rfl) ?_ | refine o_q (q_as) ?_
      refine JL.nil ?_
      replace hm := inr_onward hm hk31
      refine J.ret ?_
      obtain rfl := Option.some.inj hm
      exact ret_ok (fn := Try.f16) rfl (.tmp rfl .nil) rfl
  ·
    replace hm := forL_nil c32 hm
    unfold M.torsionref06_ValidRow_k1 at hm
    refine J.condF rfl (decide_eq_false c32) ?_
    refine J.exit ?_
    refine J.seq ?_
    refine J.region ?_
    first | refine o_q (q_asv (v := .bool _) rfl) ?_ | refine o_q (q_as) ?_
    refine JL.nil ?_
    refine J.ret ?_
    obtain rfl := Option.some.inj hm
    exact ret_ok (fn := Try.f16) rfl (.tmp rfl .nil) rfl
set_option maxHeartbeats 4000000 in
theorem torsionref06_Valid_fn {h : Heap} {x0 : TSparse} {v0 : Value} (r0 : AggV TSparseR h v0 x0) {r : Bool} (hm : M.torsionref06_Valid x0 = some r) :
    Fn Try.prog 11 #[v0] h fun v h' => v = .bool r := by
  obtain ⟨_, rfl, p21, n22, c23, rfl, f24⟩ := r0
  refine Fn.intro (args := [_]) Try.func11 rfl rfl (Nat.le_of_ble_eq_true rfl) fun w => ?_
  unfold M.torsionref06_Valid at hm
  refine J.seq ?_
  refine J.region ?_
  first | refine o_bx (v := .agg ⟨[.int _ _, .int _ _, .slice _ _ _]⟩) rfl rfl (fun b25 => ?_) | refine o_bx rfl rfl (fun b25 => ?_)
  first | refine o_q (q_asv (v := .bool _) rfl) ?_ | refine o_q (q_as) ?_
  refine JL.nil ?_
  refine J.seq ?_
  refine J.seq ?_
  refine J.joinK (α := Bool) (fun v27 h' L' => (M.torsionref06_Valid_j2 x0) v27 = some r ∧ Sp ([(b25, row 24 [.int .i64 x0.Rows, .int .i64 x0.Cols, .slice p21 n22 c23])]) L') [(1, .pointer _)] ⟨rfl, trivial⟩ (fun v27 => [(15, .bool v27)]) ?_ ?_
  ·
    by_cases c58 : x0.Rows = (x0.L.length : Int)
    ·
      replace hm := ite_T c58 hm
      refine J.region ?_
      refine o_q (q_fa rfl) ?_
      refine o_q (q_ld rfl inferInstance rfl) ?_
      refine o_q (q_fa rfl) ?_
      refine o_q (q_ld rfl inferInstance rfl) ?_
      refine o_q (q_lenE (k := x0.L.length) rfl (Sls.len f24)) ?_
      refine o_q (q_neq rfl rfl) ?_
      first | refine o_q (q_mvv (v := .bool _) rfl) ?_ | refine o_q (q_mv) ?_
      refine JL.guardT rfl rfl (decide_eq_false (fun z => z c58)) ?_
      refine o_q (q_fa rfl) ?_
      refine JL.guardT rfl rfl (decide_eq_false (fun z => z c58)) ?_
      refine o_q (q_ld rfl inferInstance rfl) ?_
      refine JL.guardT rfl rfl (decide_eq_false (fun z => z c58)) ?_
      refine o_q (q_lss rfl rfl) ?_
      first | refine o_q (q_pickFv (v := .bool _) rfl (decide_eq_false (fun z => z c58)) rfl) ?_ | refine o_q (q_pickF rfl (decide_eq_false (fun z => z c58))) ?_
      refine JL.nil ?_
      exact ⟨(decide (x0.Cols < 0)), rfl, ⟨rfl, trivial⟩, ⟨rfl, trivial⟩, ⟨hm, inferInstance⟩, inferInstance⟩
    ·
      replace hm := ite_F c58 hm
      refine J.region ?_
      refine o_q (q_fa rfl) ?_
      refine o_q (q_ld rfl inferInstance rfl) ?_
      refine o_q (q_fa rfl) ?_
      refine o_q (q_ld rfl inferInstance rfl) ?_
      refine o_q (q_lenE (k := x0.L.length) rfl (Sls.len f24)) ?_
      refine o_q (q_neq rfl rfl) ?_
      first | refine o_q (q_mvv (v := .bool _) rfl) ?_ | refine o_q (q_mv) ?_
      refine JL.guardF rfl rfl (decide_eq_true c58) rfl ?_
      refine JL.guardF rfl rfl (decide_eq_true c58) rfl ?_
      refine JL.guardF rfl rfl (decide_eq_true c58) rfl ?_
      first | refine o_q (q_pickTv (v := .bool _) rfl (decide_eq_true c58) rfl) ?_ | refine o_q (q_pickT rfl (decide_eq_true c58)) ?_
      refine JL.nil ?_
      exact ⟨true, rfl, ⟨rfl, trivial⟩, ⟨rfl, trivial⟩, ⟨hm, inferInstance⟩, inferInstance⟩
  ·
    rintro v27 σq28 hq28 Lq28 sq28 ⟨hm, hspq28⟩
    refine J.sp hspq28 ?_
    unfold M.torsionref06_Valid_j2 at hm
    by_cases c29 : v27 = true
    ·
      replace hm := ite_T c29 hm
      refine J.condT rfl c29 ?_
      refine J.seq ?_
      refine J.region ?_
      first | refine o_q (q_asv (v := .bool _) rfl) ?_ | refine o_q (q_as) ?_
      refine JL.nil ?_
      refine J.ret ?_
      obtain rfl := Option.some.inj hm
      exact ret_ok (fn := Try.f11) rfl (.tmp rfl .nil) rfl
    ·
      replace hm := ite_F c29 hm
      refine J.condF rfl (eq_false_of_ne_true c29) ?_
      refine J.skip ?_
      refine J.seq ?_
      refine J.seq ?_
      refine J.region ?_
      first | refine o_q (q_asv (v := .int _ _) rfl) ?_ | refine o_q (q_as) ?_
      refine JL.nil ?_
      refine J.block ?_
      obtain ⟨hl32, hm⟩ := rngL_some hm
      refine J.loopK (α := Nat) (fun i31 h' L' => forL (M.torsionref06_Valid_b1 x0) M.torsionref06_Valid_k1 (List.drop i31 x0.L) i31 () = some r ∧ Sp ([(b25, row 24 [.int .i64 x0.Rows, .int .i64 x0.Cols, .slice p21 n22 c23])]) L') [(1, .pointer _)] ⟨rfl, trivial⟩ (fun i31 => [(3, .int .i64 (i31 : Int))]) (fun i31 => x0.L.length - i31) 0 ⟨hm, inferInstance⟩ ⟨rfl, trivial⟩ ?_
      rintro i31 σq33 hq33 Lq33 sq33 ⟨hm, hspq33⟩
      refine J.sp hspq33 ?_
      refine J.seq ?_
      refine J.seq ?_
      refine J.region ?_
      first | refine o_q (q_mvv (v := .int _ _) rfl) ?_ | refine o_q (q_mv) ?_
      refine o_q (q_fa rfl) ?_
      refine o_q (q_ld rfl inferInstance rfl) ?_
      refine o_q (q_lenE (k := x0.L.length) rfl (Sls.len f24)) ?_
      refine o_q (q_lss rfl rfl) ?_
      refine JL.nil ?_
      by_cases c37 : (i31 : Int) < (x0.L.length : Int)
      ·
        obtain ⟨x38, o35, hl39, hx40, hm, hk36⟩ := forL_cons c37 hm
        unfold M.torsionref06_Valid_b1 at hm
        refine J.condT rfl (decide_eq_true c37) ?_
        have k41 : -9223372036854775808 ≤ (i31 : Int) + 1 ∧ (i31 : Int) + 1 ≤ 9223372036854775807 := by omega
        refine J.skip ?_
        refine J.seq ?_
        refine J.block ?_
        refine J.seq ?_
        obtain ⟨b42, o43, rfl⟩ := Sls.op f24 hl39
        obtain ⟨us44, hc45, hR46⟩ := Sls.at f24 hx40
        obtain ⟨p47, n48, c49, rfl, f50⟩ := hR46
        obtain ⟨y56, e55, hm⟩ := bnd_some hm
        refine J.drawB [b25] [] ?_
        refine JD.calc 0 (by kernel_rfl) rfl trivial ss_subB (q_fa rfl) ?_
        refine JD.loadB 1 (by kernel_rfl) rfl trivial (q_ld rfl inferInstance rfl) ?_
        first | refine JD.calc 2 (by kernel_rfl) rfl trivial ss_subB (q_mvv (v := .int _ _) rfl) ?_ | refine JD.calc 2 (by kernel_rfl) rfl trivial ss_subB (q_mv) ?_
        refine JD.calc 3 (by kernel_rfl) rfl trivial ss_subB (q_ian rfl rfl rfl (by first | exact hl39 | (rw [Sls.len f24]; exact hl39))) ?_
        refine JD.loadB 4 (by kernel_rfl) rfl trivial (q_ldf rfl hc45) ?_
        refine JD.calc 5 (by kernel_rfl) rfl trivial ss_subB (q_fa rfl) ?_
        refine JD.loadB 6 (by kernel_rfl) rfl trivial (q_ld rfl inferInstance rfl) ?_
        refine JD.one 7 (by kernel_rfl) ?_
        refine JX.effB rfl rfl trivial ?_
        refine o_call (torsionref06_ValidRow_fn (Sls.mono f50) e55) (fun v51 h52 s53 r54 => ?_)
        obtain rfl := (show _ = _ from r54)
        refine JL.nil ⟨rfl, inferInstance, inferInstance, ?_⟩
        first | refine JD.calc 8 (by kernel_rfl) rfl trivial ss_subB (q_asv (v := .bool _) rfl) ?_ | refine JD.calc 8 (by kernel_rfl) rfl trivial ss_subB (q_as) ?_
        refine JD.done (by kernel_rfl) ?_ _
        --
        refine J.seq ?_
        refine J.region ?_
        first | refine o_q (q_mvv (v := .bool _) rfl) ?_ | refine o_q (q_mv) ?_
        refine o_q (q_not rfl) ?_
        refine JL.nil ?_
        by_cases c57 : y56 = true
        ·
          replace hm := ite_T c57 hm
          refine J.condF rfl (congrArg Bool.not (show y56 = true from c57)) ?_
          refine J.skip ?_
          refine J.region ?_
          first | refine o_q (q_mvv (v := .int _ _) rfl) ?_ | refine o_q (q_mv) ?_
          refine o_q (q_add rfl rfl (wi64 k41)) ?_
          first | refine o_q (q_asv (v := .int _ _) rfl) ?_ | refine o_q (q_as) ?_
          refine JL.nil ?_
          replace hm := inl_onward hm hk36
          exact ⟨(i31 + 1), rfl, ⟨rfl, trivial⟩, ⟨rfl, trivial⟩, ⟨hm, inferInstance⟩, (muL hl39), inferInstance⟩
        ·
          replace hm := ite_F c57 hm
          refine J.condT rfl (congrArg Bool.not (show y56 = false from (eq_false_of_ne_true c57))) ?_
          refine J.seq ?_
          refine J.region ?_
          first | refine o_q (q_asv (v := .bool _) rfl) ?_ | refine o_q (q_as) ?_
          refine JL.nil ?_
          replace hm := inr_onward hm hk36
          refine J.ret ?_
          obtain rfl := Option.some.inj hm
          exact ret_ok (fn := Try.f11) rfl (.tmp rfl .nil) rfl
      ·
        replace hm := forL_nil c37 hm
        unfold M.torsionref06_Valid_k1 at hm
        refine J.condF rfl (decide_eq_false c37) ?_
        refine J.exit ?_
        refine J.seq ?_
        refine J.region ?_
        first | refine o_q (q_asv (v := .bool _) rfl) ?_ | refine o_q (q_as) ?_
        refine JL.nil ?_
        refine J.ret ?_
        obtain rfl := Option.some.inj hm
        exact ret_ok (fn := Try.f11) rfl (.tmp rfl .nil) rfl
set_option maxHeartbeats 4000000 in
theorem torsionref06_SameVec_fn {h : Heap} {x0 : List Int} {x1 : List Int} {v0 : Value} {v1 : Value} (r0 : Sls IntR 2 h v0 x0) (r1 : Sls IntR 2 h v1 x1) {r : Bool} (hm : M.torsionref06_SameVec x0 x1 = some r) :
    Fn Try.prog 35 #[v0, v1] h fun v h' => v = .bool r := by
  obtain ⟨p21, n22, c23, rfl, f24⟩ := Sls.op3 r0
  obtain ⟨p25, n26, c27, rfl, f28⟩ := Sls.op3 r1
  refine Fn.intro (args := [_, _]) Try.func35 rfl rfl (Nat.le_of_ble_eq_true rfl) fun w => ?_
  unfold M.torsionref06_SameVec at hm
  refine J.seq ?_
  refine J.region ?_
  first | refine o_q (q_asv (v := .bool _) rfl) ?_ | refine o_q (q_as) ?_
  refine JL.nil ?_
  refine J.seq ?_
  refine J.seq ?_
  refine J.region ?_
  first | refine o_q (q_mvv (v := .slice _ _ _) rfl) ?_ | refine o_q (q_mv) ?_
  refine o_q (q_lenE (k := x0.length) rfl (Sls.len f24)) ?_
  first | refine o_q (q_mvv (v := .slice _ _ _) rfl) ?_ | refine o_q (q_mv) ?_
  refine o_q (q_lenE (k := x1.length) rfl (Sls.len f28)) ?_
  refine o_q (q_neq rfl rfl) ?_
  refine JL.nil ?_
  by_cases c29 : (x0.length : Int) = (x1.length : Int)
  ·
    replace hm := ite_T c29 hm
    refine J.condF rfl (decide_eq_false (fun z => z c29)) ?_
    refine J.skip ?_
    refine J.seq ?_
    refine J.seq ?_
    refine J.region ?_
    first | refine o_q (q_asv (v := .int _ _) rfl) ?_ | refine o_q (q_as) ?_
    refine JL.nil ?_
    refine J.block ?_
    obtain ⟨hl32, hm⟩ := rngL_some hm
    refine J.loopK (α := Nat) (fun i31 h' L' => forL (M.torsionref06_SameVec_b1 x1) M.torsionref06_SameVec_k1 (List.drop i31 x0) i31 () = some r ∧ Sp ([]) L') [(0, .slice _ _ _), (1, .slice _ _ _)] ⟨rfl, rfl, trivial⟩ (fun i31 => [(5, .int .i64 (i31 : Int))]) (fun i31 => x0.length - i31) 0 ⟨hm, inferInstance⟩ ⟨rfl, trivial⟩ ?_
    rintro i31 σq33 hq33 Lq33 sq33 ⟨hm, hspq33⟩
    refine J.sp hspq33 ?_
    refine J.seq ?_
    refine J.seq ?_
    refine J.region ?_
    first | refine o_q (q_mvv (v := .int _ _) rfl) ?_ | refine o_q (q_mv) ?_
    first | refine o_q (q_mvv (v := .slice _ _ _) rfl) ?_ | refine o_q (q_mv) ?_
    refine o_q (q_lenE (k := x0.length) rfl (Sls.len f24)) ?_
    refine o_q (q_lss rfl rfl) ?_
    refine JL.nil ?_
    by_cases c37 : (i31 : Int) < (x0.length : Int)
    ·
      obtain ⟨x38, o35, hl39, hx40, hm, hk36⟩ := forL_cons c37 hm
      unfold M.torsionref06_SameVec_b1 at hm
      refine J.condT rfl (decide_eq_true c37) ?_
      have k41 : -9223372036854775808 ≤ (i31 : Int) + 1 ∧ (i31 : Int) + 1 ≤ 9223372036854775807 := by omega
      refine J.skip ?_
      refine J.seq ?_
      refine J.block ?_
      refine J.seq ?_
      obtain ⟨b42, o43, rfl⟩ := Sls.op f24 hl39
      obtain ⟨us44, hc45, hR46⟩ := Sls.at f24 hx40
      obtain ⟨g47, p48, n49, c50, rfl, f51⟩ := IntR.op hR46
      obtain ⟨i53, x52, hi54, hl55, hx56, hm⟩ := nth_some hm
      obtain ⟨b57, o58, rfl⟩ := Sls.op f28 hl55
      obtain ⟨us59, hc60, hR61⟩ := Sls.at f28 hx56
      obtain ⟨g62, p63, n64, c65, rfl, f66⟩ := IntR.op hR61
      obtain ⟨y72, e71, hm⟩ := bnd_some hm
      refine J.drawB [] [] ?_
      first | refine JD.calc 0 (by kernel_rfl) rfl trivial ss_subB (q_mvv (v := .slice _ _ _) rfl) ?_ | refine JD.calc 0 (by kernel_rfl) rfl trivial ss_subB (q_mv) ?_
      first | refine JD.calc 1 (by kernel_rfl) rfl trivial ss_subB (q_mvv (v := .int _ _) rfl) ?_ | refine JD.calc 1 (by kernel_rfl) rfl trivial ss_subB (q_mv) ?_
      refine JD.calc 2 (by kernel_rfl) rfl trivial ss_subB (q_ian rfl rfl rfl (by first | exact hl39 | (rw [Sls.len f24]; exact hl39))) ?_
      refine JD.loadB 3 (by kernel_rfl) rfl trivial (q_ldfa rfl hc45) ?_
      first | refine JD.calc 4 (by kernel_rfl) rfl trivial ss_subB (q_mvv (v := .slice _ _ _) rfl) ?_ | refine JD.calc 4 (by kernel_rfl) rfl trivial ss_subB (q_mv) ?_
      first | refine JD.calc 5 (by kernel_rfl) rfl trivial ss_subB (q_mvv (v := .int _ _) rfl) ?_ | refine JD.calc 5 (by kernel_rfl) rfl trivial ss_subB (q_mv) ?_
      refine JD.calc 6 (by kernel_rfl) rfl trivial ss_subB (q_ian rfl rfl hi54 (by first | exact hl55 | (rw [Sls.len f28]; exact hl55))) ?_
      refine JD.loadB 7 (by kernel_rfl) rfl trivial (q_ldfa rfl hc60) ?_
      refine JD.one 8 (by kernel_rfl) ?_
      refine JX.effB rfl rfl trivial ?_
      refine o_call (rsame_fn (IntR.at (Mo.up f51)) (IntR.at (Mo.up f66)) e71) (fun v67 h68 s69 r70 => ?_)
      obtain rfl := (show _ = _ from r70)
      refine JL.nil ⟨rfl, inferInstance, inferInstance, ?_⟩
      refine JD.calc 9 (by kernel_rfl) rfl trivial ss_subB (q_not rfl) ?_
      refine JD.done (by kernel_rfl) ?_ _
      --
      by_cases c73 : y72 = true
      ·
        replace hm := ite_T c73 hm
        refine J.condF rfl (congrArg Bool.not (show y72 = true from c73)) ?_
        refine J.skip ?_
        refine J.region ?_
        first | refine o_q (q_mvv (v := .int _ _) rfl) ?_ | refine o_q (q_mv) ?_
        refine o_q (q_add rfl rfl (wi64 k41)) ?_
        first | refine o_q (q_asv (v := .int _ _) rfl) ?_ | refine o_q (q_as) ?_
        refine JL.nil ?_
        replace hm := inl_onward hm hk36
        exact ⟨(i31 + 1), rfl, ⟨rfl, rfl, trivial⟩, ⟨rfl, trivial⟩, ⟨hm, inferInstance⟩, (muL hl39), inferInstance⟩
      ·
        replace hm := ite_F c73 hm
        refine J.condT rfl (congrArg Bool.not (show y72 = false from (eq_false_of_ne_true c73))) ?_
        refine J.seq ?_
        refine J.region ?_
        first | refine o_q (q_asv (v := .bool _) rfl) ?_ | refine o_q (q_as) ?_
        refine JL.nil ?_
        replace hm := inr_onward hm hk36
        refine J.ret ?_
        obtain rfl := Option.some.inj hm
        exact ret_ok (fn := Try.f35) rfl (.tmp rfl .nil) rfl
    ·
      replace hm := forL_nil c37 hm
      unfold M.torsionref06_SameVec_k1 at hm
      refine J.condF rfl (decide_eq_false c37) ?_
      refine J.exit ?_
      refine J.seq ?_
      refine J.region ?_
      first | refine o_q (q_asv (v := .bool _) rfl) ?_ | refine o_q (q_as) ?_
      refine JL.nil ?_
      refine J.ret ?_
      obtain rfl := Option.some.inj hm
      exact ret_ok (fn := Try.f35) rfl (.tmp rfl .nil) rfl
  ·
    replace hm := ite_F c29 hm
    refine J.condT rfl (decide_eq_true c29) ?_
    refine J.seq ?_
    refine J.region ?_
    first | refine o_q (q_asv (v := .bool _) rfl) ?_ | refine o_q (q_as) ?_
    refine JL.nil ?_
    refine J.ret ?_
    obtain rfl := Option.some.inj hm
    exact ret_ok (fn := Try.f35) rfl (.tmp rfl .nil) rfl
set_option maxHeartbeats 4000000 in
theorem torsionref06_SameRow_fn {h : Heap} {x0 : List TTerm} {x1 : List TTerm} {v0 : Value} {v1 : Value} (r0 : Sls TTermR 3 h v0 x0) (r1 : Sls TTermR 3 h v1 x1) {r : Bool} (hm : M.torsionref06_SameRow x0 x1 = some r) :
    Fn Try.prog 17 #[v0, v1] h fun v h' => v = .bool r := by
  obtain ⟨p21, n22, c23, rfl, f24⟩ := Sls.op3 r0
  obtain ⟨p25, n26, c27, rfl, f28⟩ := Sls.op3 r1
  refine Fn.intro (args := [_, _]) Try.func17 rfl rfl (Nat.le_of_ble_eq_true rfl) fun w => ?_
  unfold M.torsionref06_SameRow at hm
  refine J.seq ?_
  refine J.region ?_
  first | refine o_q (q_asv (v := .bool _) rfl) ?_ | refine o_q (q_as) ?_
  refine JL.nil ?_
  refine J.seq ?_
  refine J.seq ?_
  refine J.region ?_
  first | refine o_q (q_mvv (v := .slice _ _ _) rfl) ?_ | refine o_q (q_mv) ?_
  refine o_q (q_lenE (k := x0.length) rfl (Sls.len f24)) ?_
  first | refine o_q (q_mvv (v := .slice _ _ _) rfl) ?_ | refine o_q (q_mv) ?_
  refine o_q (q_lenE (k := x1.length) rfl (Sls.len f28)) ?_
  refine o_q (q_neq rfl rfl) ?_
  refine JL.nil ?_
  by_cases c29 : (x0.length : Int) = (x1.length : Int)
  ·
    replace hm := ite_T c29 hm
    refine J.condF rfl (decide_eq_false (fun z => z c29)) ?_
    refine J.skip ?_
    refine J.seq ?_
    refine J.seq ?_
    refine J.region ?_
    first | refine o_q (q_asv (v := .int _ _) rfl) ?_ | refine o_q (q_as) ?_
    refine JL.nil ?_
    refine J.block ?_
    obtain ⟨hl32, hm⟩ := rngL_some hm
    refine J.loopK (α := Nat) (fun i31 h' L' => forL (M.torsionref06_SameRow_b1 x1) M.torsionref06_SameRow_k1 (List.drop i31 x0) i31 () = some r ∧ Sp ([]) L') [(0, .slice _ _ _), (1, .slice _ _ _)] ⟨rfl, rfl, trivial⟩ (fun i31 => [(5, .int .i64 (i31 : Int))]) (fun i31 => x0.length - i31) 0 ⟨hm, inferInstance⟩ ⟨rfl, trivial⟩ ?_
    rintro i31 σq33 hq33 Lq33 sq33 ⟨hm, hspq33⟩
    refine J.sp hspq33 ?_
    refine J.seq ?_
    refine J.seq ?_
    refine J.region ?_
    first | refine o_q (q_mvv (v := .int _ _) rfl) ?_ | refine o_q (q_mv) ?_
    first | refine o_q (q_mvv (v := .slice _ _ _) rfl) ?_ | refine o_q (q_mv) ?_
    refine o_q (q_lenE (k := x0.length) rfl (Sls.len f24)) ?_
    refine o_q (q_lss rfl rfl) ?_
    refine JL.nil ?_
    by_cases c37 : (i31 : Int) < (x0.length : Int)
    ·
      obtain ⟨x38, o35, hl39, hx40, hm, hk36⟩ := forL_cons c37 hm
      unfold M.torsionref06_SameRow_b1 at hm
      refine J.condT rfl (decide_eq_true c37) ?_
      have k41 : -9223372036854775808 ≤ (i31 : Int) + 1 ∧ (i31 : Int) + 1 ≤ 9223372036854775807 := by omega
      refine J.skip ?_
      refine J.seq ?_
      refine J.block ?_
      refine J.seq ?_
      obtain ⟨b42, o43, rfl⟩ := Sls.op f24 hl39
      obtain ⟨us44, hc45, hR46⟩ := Sls.at f24 hx40
      obtain ⟨g47, p48, n49, c50, rfl, f51⟩ := hR46
      obtain ⟨i53, x52, hi54, hl55, hx56, hm⟩ := nth_some hm
      obtain ⟨b57, o58, rfl⟩ := Sls.op f28 hl55
      obtain ⟨us59, hc60, hR61⟩ := Sls.at f28 hx56
      obtain ⟨g62, p63, n64, c65, rfl, f66⟩ := hR61
      by_cases c67 : x38.Col = x52.Col
      ·
        replace hm := ite_T c67 hm
        obtain ⟨y79, e78, hm⟩ := bnd_some hm
        refine J.drawB [] [] ?_
        first | refine JD.calc 0 (by kernel_rfl) rfl trivial ss_subB (q_mvv (v := .slice _ _ _) rfl) ?_ | refine JD.calc 0 (by kernel_rfl) rfl trivial ss_subB (q_mv) ?_
        first | refine JD.calc 1 (by kernel_rfl) rfl trivial ss_subB (q_mvv (v := .int _ _) rfl) ?_ | refine JD.calc 1 (by kernel_rfl) rfl trivial ss_subB (q_mv) ?_
        refine JD.calc 2 (by kernel_rfl) rfl trivial ss_subB (q_ian rfl rfl rfl (by first | exact hl39 | (rw [Sls.len f24]; exact hl39))) ?_
        refine JD.calc 3 (by kernel_rfl) rfl trivial ss_subB (q_fa rfl) ?_
        refine JD.loadB 4 (by kernel_rfl) rfl trivial (q_ldf rfl (hc45.cell (j := 0) rfl)) ?_
        first | refine JD.calc 5 (by kernel_rfl) rfl trivial ss_subB (q_mvv (v := .slice _ _ _) rfl) ?_ | refine JD.calc 5 (by kernel_rfl) rfl trivial ss_subB (q_mv) ?_
        first | refine JD.calc 6 (by kernel_rfl) rfl trivial ss_subB (q_mvv (v := .int _ _) rfl) ?_ | refine JD.calc 6 (by kernel_rfl) rfl trivial ss_subB (q_mv) ?_
        refine JD.calc 7 (by kernel_rfl) rfl trivial ss_subB (q_ian rfl rfl hi54 (by first | exact hl55 | (rw [Sls.len f28]; exact hl55))) ?_
        refine JD.calc 8 (by kernel_rfl) rfl trivial ss_subB (q_fa rfl) ?_
        refine JD.loadB 9 (by kernel_rfl) rfl trivial (q_ldf rfl (hc60.cell (j := 0) rfl)) ?_
        refine JD.calc 10 (by kernel_rfl) rfl trivial ss_subB (q_neq rfl rfl) ?_
        first | refine JD.calc 11 (by kernel_rfl) rfl trivial ss_subB (q_mvv (v := .bool _) rfl) ?_ | refine JD.calc 11 (by kernel_rfl) rfl trivial ss_subB (q_mv) ?_
        first | refine JD.calc 12 (by kernel_rfl) rfl ⟨_, rfl, (congrArg Value.bool (decide_eq_false (fun z => z c67)))⟩ ss_subB (q_mvv (v := .slice _ _ _) rfl) ?_ | refine JD.calc 12 (by kernel_rfl) rfl ⟨_, rfl, (congrArg Value.bool (decide_eq_false (fun z => z c67)))⟩ ss_subB (q_mv) ?_
        first | refine JD.calc 13 (by kernel_rfl) rfl ⟨_, rfl, (congrArg Value.bool (decide_eq_false (fun z => z c67)))⟩ ss_subB (q_mvv (v := .int _ _) rfl) ?_ | refine JD.calc 13 (by kernel_rfl) rfl ⟨_, rfl, (congrArg Value.bool (decide_eq_false (fun z => z c67)))⟩ ss_subB (q_mv) ?_
        refine JD.calc 14 (by kernel_rfl) rfl ⟨_, rfl, (congrArg Value.bool (decide_eq_false (fun z => z c67)))⟩ ss_subB (q_ian rfl rfl rfl (by first | exact hl39 | (rw [Sls.len f24]; exact hl39))) ?_
        refine JD.calc 15 (by kernel_rfl) rfl ⟨_, rfl, (congrArg Value.bool (decide_eq_false (fun z => z c67)))⟩ ss_subB (q_fa rfl) ?_
        refine JD.loadB 16 (by kernel_rfl) rfl ⟨_, rfl, (congrArg Value.bool (decide_eq_false (fun z => z c67)))⟩ (q_ldfs (vs := [_, _]) rfl hc45 rfl) ?_
        first | refine JD.calc 17 (by kernel_rfl) rfl ⟨_, rfl, (congrArg Value.bool (decide_eq_false (fun z => z c67)))⟩ ss_subB (q_mvv (v := .slice _ _ _) rfl) ?_ | refine JD.calc 17 (by kernel_rfl) rfl ⟨_, rfl, (congrArg Value.bool (decide_eq_false (fun z => z c67)))⟩ ss_subB (q_mv) ?_
        first | refine JD.calc 18 (by kernel_rfl) rfl ⟨_, rfl, (congrArg Value.bool (decide_eq_false (fun z => z c67)))⟩ ss_subB (q_mvv (v := .int _ _) rfl) ?_ | refine JD.calc 18 (by kernel_rfl) rfl ⟨_, rfl, (congrArg Value.bool (decide_eq_false (fun z => z c67)))⟩ ss_subB (q_mv) ?_
        refine JD.calc 19 (by kernel_rfl) rfl ⟨_, rfl, (congrArg Value.bool (decide_eq_false (fun z => z c67)))⟩ ss_subB (q_ian rfl rfl hi54 (by first | exact hl55 | (rw [Sls.len f28]; exact hl55))) ?_
        refine JD.calc 20 (by kernel_rfl) rfl ⟨_, rfl, (congrArg Value.bool (decide_eq_false (fun z => z c67)))⟩ ss_subB (q_fa rfl) ?_
        refine JD.loadB 21 (by kernel_rfl) rfl ⟨_, rfl, (congrArg Value.bool (decide_eq_false (fun z => z c67)))⟩ (q_ldfs (vs := [_, _]) rfl hc60 rfl) ?_
        refine JD.one 22 (by kernel_rfl) ?_
        refine JX.effB rfl rfl ⟨_, rfl, (congrArg Value.bool (decide_eq_false (fun z => z c67)))⟩ ?_
        refine o_call (rsame_fn (IntR.at (Mo.up f51)) (IntR.at (Mo.up f66)) e78) (fun v74 h75 s76 r77 => ?_)
        obtain rfl := (show _ = _ from r77)
        refine JL.nil ⟨rfl, inferInstance, inferInstance, ?_⟩
        refine JD.calc 23 (by kernel_rfl) rfl ⟨_, rfl, (congrArg Value.bool (decide_eq_false (fun z => z c67)))⟩ ss_subB (q_not rfl) ?_
        first | refine JD.calc 24 (by kernel_rfl) rfl trivial ss_subB (q_pickFv (v := .bool _) rfl (decide_eq_false (fun z => z c67)) rfl) ?_ | refine JD.calc 24 (by kernel_rfl) rfl trivial ss_subB (q_pickF rfl (decide_eq_false (fun z => z c67))) ?_
        refine JD.done (by kernel_rfl) ?_ _
        --
        by_cases c80 : y79 = true
        ·
          replace hm := ite_T c80 hm
          refine J.condF rfl (congrArg Bool.not (show y79 = true from c80)) ?_
          refine J.skip ?_
          refine J.region ?_
          first | refine o_q (q_mvv (v := .int _ _) rfl) ?_ | refine o_q (q_mv) ?_
          refine o_q (q_add rfl rfl (wi64 k41)) ?_
          first | refine o_q (q_asv (v := .int _ _) rfl) ?_ | refine o_q (q_as) ?_
          refine JL.nil ?_
          replace hm := inl_onward hm hk36
          exact ⟨(i31 + 1), rfl, ⟨rfl, rfl, trivial⟩, ⟨rfl, trivial⟩, ⟨hm, inferInstance⟩, (muL hl39), inferInstance⟩
        ·
          replace hm := ite_F c80 hm
          refine J.condT rfl (congrArg Bool.not (show y79 = false from (eq_false_of_ne_true c80))) ?_
          refine J.seq ?_
          refine J.region ?_
          first | refine o_q (q_asv (v := .bool _) rfl) ?_ | refine o_q (q_as) ?_
          refine JL.nil ?_
          replace hm := inr_onward hm hk36
          refine J.ret ?_
          obtain rfl := Option.some.inj hm
          exact ret_ok (fn := Try.f17) rfl (.tmp rfl .nil) rfl
      ·
        replace hm := ite_F c67 hm
        refine J.drawB [] [] ?_
        first | refine JD.calc 0 (by kernel_rfl) rfl trivial ss_subB (q_mvv (v := .slice _ _ _) rfl) ?_ | refine JD.calc 0 (by kernel_rfl) rfl trivial ss_subB (q_mv) ?_
        first | refine JD.calc 1 (by kernel_rfl) rfl trivial ss_subB (q_mvv (v := .int _ _) rfl) ?_ | refine JD.calc 1 (by kernel_rfl) rfl trivial ss_subB (q_mv) ?_
        refine JD.calc 2 (by kernel_rfl) rfl trivial ss_subB (q_ian rfl rfl rfl (by first | exact hl39 | (rw [Sls.len f24]; exact hl39))) ?_
        refine JD.calc 3 (by kernel_rfl) rfl trivial ss_subB (q_fa rfl) ?_
        refine JD.loadB 4 (by kernel_rfl) rfl trivial (q_ldf rfl (hc45.cell (j := 0) rfl)) ?_
        first | refine JD.calc 5 (by kernel_rfl) rfl trivial ss_subB (q_mvv (v := .slice _ _ _) rfl) ?_ | refine JD.calc 5 (by kernel_rfl) rfl trivial ss_subB (q_mv) ?_
        first | refine JD.calc 6 (by kernel_rfl) rfl trivial ss_subB (q_mvv (v := .int _ _) rfl) ?_ | refine JD.calc 6 (by kernel_rfl) rfl trivial ss_subB (q_mv) ?_
        refine JD.calc 7 (by kernel_rfl) rfl trivial ss_subB (q_ian rfl rfl hi54 (by first | exact hl55 | (rw [Sls.len f28]; exact hl55))) ?_
        refine JD.calc 8 (by kernel_rfl) rfl trivial ss_subB (q_fa rfl) ?_
        refine JD.loadB 9 (by kernel_rfl) rfl trivial (q_ldf rfl (hc60.cell (j := 0) rfl)) ?_
        refine JD.calc 10 (by kernel_rfl) rfl trivial ss_subB (q_neq rfl rfl) ?_
        first | refine JD.calc 11 (by kernel_rfl) rfl trivial ss_subB (q_mvv (v := .bool _) rfl) ?_ | refine JD.calc 11 (by kernel_rfl) rfl trivial ss_subB (q_mv) ?_
        refine JD.pass 12 (by kernel_rfl) rfl rfl (congrArg Value.bool (decide_eq_true c67)) ss_subB ?_
        refine JD.pass 13 (by kernel_rfl) rfl rfl (congrArg Value.bool (decide_eq_true c67)) ss_subB ?_
        refine JD.pass 14 (by kernel_rfl) rfl rfl (congrArg Value.bool (decide_eq_true c67)) ss_subB ?_
        refine JD.pass 15 (by kernel_rfl) rfl rfl (congrArg Value.bool (decide_eq_true c67)) ss_subB ?_
        refine JD.pass 16 (by kernel_rfl) rfl rfl (congrArg Value.bool (decide_eq_true c67)) ss_subB ?_
        refine JD.pass 17 (by kernel_rfl) rfl rfl (congrArg Value.bool (decide_eq_true c67)) ss_subB ?_
        refine JD.pass 18 (by kernel_rfl) rfl rfl (congrArg Value.bool (decide_eq_true c67)) ss_subB ?_
        refine JD.pass 19 (by kernel_rfl) rfl rfl (congrArg Value.bool (decide_eq_true c67)) ss_subB ?_
        refine JD.pass 20 (by kernel_rfl) rfl rfl (congrArg Value.bool (decide_eq_true c67)) ss_subB ?_
        refine JD.pass 21 (by kernel_rfl) rfl rfl (congrArg Value.bool (decide_eq_true c67)) ss_subB ?_
        refine JD.pass 22 (by kernel_rfl) rfl rfl (congrArg Value.bool (decide_eq_true c67)) ss_subB ?_
        refine JD.pass 23 (by kernel_rfl) rfl rfl (congrArg Value.bool (decide_eq_true c67)) ss_subB ?_
        first | refine JD.calc 24 (by kernel_rfl) rfl trivial ss_subB (q_pickTv (v := .bool _) rfl (decide_eq_true c67) rfl) ?_ | refine JD.calc 24 (by kernel_rfl) rfl trivial ss_subB (q_pickT rfl (decide_eq_true c67)) ?_
        refine JD.done (by kernel_rfl) ?_ _
        --
        refine J.condT rfl rfl ?_
        refine J.seq ?_
        refine J.region ?_
        first | refine o_q (q_asv (v := .bool _) rfl) ?_ | refine o_q (q_as) ?_
        refine JL.nil ?_
        replace hm := inr_onward hm hk36
        refine J.ret ?_
        obtain rfl := Option.some.inj hm
        exact ret_ok (fn := Try.f17) rfl (.tmp rfl .nil) rfl
    ·
      replace hm := forL_nil c37 hm
      unfold M.torsionref06_SameRow_k1 at hm
      refine J.condF rfl (decide_eq_false c37) ?_
      refine J.exit ?_
      refine J.seq ?_
      refine J.region ?_
      first | refine o_q (q_asv (v := .bool _) rfl) ?_ | refine o_q (q_as) ?_
      refine JL.nil ?_
      refine J.ret ?_
      obtain rfl := Option.some.inj hm
      exact ret_ok (fn := Try.f17) rfl (.tmp rfl .nil) rfl
  ·
    replace hm := ite_F c29 hm
    refine J.condT rfl (decide_eq_true c29) ?_
    refine J.seq ?_
    refine J.region ?_
    first | refine o_q (q_asv (v := .bool _) rfl) ?_ | refine o_q (q_as) ?_
    refine JL.nil ?_
    refine J.ret ?_
    obtain rfl := Option.some.inj hm
    exact ret_ok (fn := Try.f17) rfl (.tmp rfl .nil) rfl
set_option maxHeartbeats 4000000 in
theorem sparse_From_fn {h : Heap} {x0 : TMat} {v0 : Value} (r0 : AggV TMatR h v0 x0) {r : TSparse} (hm : M.sparse_From x0 = some r) :
    Fn Try.prog 33 #[v0] h fun v h' => AggV TSparseR h' v r := by
  obtain ⟨_, rfl, p21, n22, c23, rfl, f24⟩ := r0
  refine Fn.intro (args := [_]) Try.func33 rfl rfl (Nat.le_of_ble_eq_true rfl) fun w => ?_
  unfold M.sparse_From at hm
  refine J.seq ?_
  refine J.region ?_
  first | refine o_bx (v := .agg ⟨[.int _ _, .int _ _, .slice _ _ _]⟩) rfl rfl (fun b25 => ?_) | refine o_bx rfl rfl (fun b25 => ?_)
  refine o_al (fun b26 => ?_)
  refine JL.nil ?_
  refine J.seq ?_
  refine J.region ?_
  refine o_q (q_fa rfl) ?_
  refine o_q (q_ld rfl inferInstance rfl) ?_
  refine o_q (q_fa rfl) ?_
  refine o_q (q_ld rfl inferInstance rfl) ?_
  first | refine o_q (q_bd [.int _ _, .int _ _, .slice _ _ _] rfl) ?_ | refine o_q (q_bd [_, _, _] rfl) ?_
  refine o_al (fun b27 => ?_)
  first | refine o_stc (vs := [.int _ _, .int _ _, .slice _ _ _]) (l' := [.int _ _, .int _ _, .slice _ _ _]) rfl rfl rfl rfl rfl inferInstance rfl rfl ?_ | refine o_stc (vs := [_, _, _]) (l' := [_, _, _]) rfl rfl rfl rfl rfl inferInstance rfl rfl ?_
  refine JL.nil ?_
  refine J.seq ?_
  refine J.seq ?_
  refine J.region ?_
  refine o_q (q_fa rfl) ?_
  refine o_q (q_ld rfl inferInstance rfl) ?_
  refine o_q (q_lenE (k := x0.A.length) rfl (Sls.len f24)) ?_
  first | refine o_q (q_mvv (v := .int _ _) rfl) ?_ | refine o_q (q_mv) ?_
  refine JL.nil ?_
  refine J.block ?_
  obtain ⟨hl36, hm⟩ := rngL_some hm
  refine J.loopK (α := Nat × (List (List TTerm)) × (Option Addr) × Nat × Nat × Own) (fun ⟨i35, v28, p29, n30, c31, L33⟩ h' L' => OwnL (LR TTermR 3) 26 1 h' (.slice p29 n30 c31) v28 L33 ∧ forL M.sparse_From_b2 (M.sparse_From_k2 x0) (List.drop i35 x0.A) i35 v28 = some r ∧ Sp (L33 ++ ([(b26, row 24 [.int .i64 0, .int .i64 0, .slice none 0 0]), (b27, row 24 [.int .i64 x0.Rows, .int .i64 x0.Cols, .slice p29 n30 c31])])) L') [(2, .pointer _), (3, .pointer _), (15, .slice _ _ _), (16, .int _ _)] ⟨rfl, rfl, rfl, rfl, trivial⟩ (fun ⟨i35, v28, p29, n30, c31, L33⟩ => [(17, .int .i64 (i35 : Int))]) (fun ⟨i35, v28, p29, n30, c31, L33⟩ => x0.A.length - i35) ⟨0, ([] : List (List TTerm)), none, 0, 0, []⟩ ⟨(OwnL.nil _), hm, inferInstance⟩ ⟨rfl, trivial⟩ ?_
  rintro ⟨i35, v28, p29, n30, c31, L33⟩ σq37 hq37 Lq37 sq37 ⟨f32, hm, hspq37⟩
  refine J.sp hspq37 ?_
  refine J.seq ?_
  refine J.region ?_
  refine o_q (q_lss rfl rfl) ?_
  refine JL.nil ?_
  refine J.seq ?_
  by_cases c41 : (i35 : Int) < (x0.A.length : Int)
  ·
    obtain ⟨x42, o39, hl43, hx44, hm, hk40⟩ := forL_cons c41 hm
    unfold M.sparse_From_b2 at hm
    refine J.condT rfl (decide_eq_true c41) ?_
    have k45 : -9223372036854775808 ≤ (i35 : Int) + 1 ∧ (i35 : Int) + 1 ≤ 9223372036854775807 := by omega
    refine J.skip ?_
    refine J.seq ?_
    refine J.block ?_
    refine J.seq ?_
    obtain ⟨b46, o47, rfl⟩ := Sls.op f24 hl43
    obtain ⟨us48, hc49, hR50⟩ := Sls.at f24 hx44
    obtain ⟨p51, n52, c53, rfl, f54⟩ := hR50
    refine J.region ?_
    refine o_q (q_ian rfl rfl rfl (by first | exact hl43 | (rw [Sls.len f24]; exact hl43))) ?_
    refine o_q (q_ldf rfl hc49) ?_
    first | refine o_q (q_asv (v := .slice _ _ _) rfl) ?_ | refine o_q (q_as) ?_
    refine JL.nil ?_
    refine J.seq ?_
    refine J.region ?_
    first | refine o_q (q_asv (v := .slice _ _ _) rfl) ?_ | refine o_q (q_as) ?_
    refine JL.nil ?_
    refine J.seq ?_
    refine J.seq ?_
    refine J.region ?_
    first | refine o_q (q_mvv (v := .slice _ _ _) rfl) ?_ | refine o_q (q_mv) ?_
    refine o_q (q_lenE (k := x42.length) rfl (Sls.len f54)) ?_
    first | refine o_q (q_mvv (v := .int _ _) rfl) ?_ | refine o_q (q_mv) ?_
    refine JL.nil ?_
    refine J.block ?_
    obtain ⟨hl63, hm⟩ := rngL_some hm
    refine J.loopK (α := Nat × (List TTerm) × (Option Addr) × Nat × Nat × Own) (fun ⟨i62, v55, p56, n57, c58, L60⟩ h' L' => OwnL TTermR 71 3 h' (.slice p56 n57 c58) v55 L60 ∧ forL M.sparse_From_b1 (M.sparse_From_k1 v28) (List.drop i62 x42) i62 v55 = some o39 ∧ Sp (L33 ++ (L60 ++ ([(b26, row 24 [.int .i64 0, .int .i64 0, .slice none 0 0]), (b27, row 24 [.int .i64 x0.Rows, .int .i64 x0.Cols, .slice p29 n30 c31])]))) L') [(2, .pointer _), (3, .pointer _), (15, .slice _ _ _), (16, .int _ _), (17, .int _ _), (21, .slice _ _ _), (22, .int _ _)] ⟨rfl, rfl, rfl, rfl, rfl, rfl, rfl, trivial⟩ (fun ⟨i62, v55, p56, n57, c58, L60⟩ => [(6, .slice p56 n57 c58), (23, .int .i64 (i62 : Int))]) (fun ⟨i62, v55, p56, n57, c58, L60⟩ => x42.length - i62) ⟨0, ([] : List TTerm), none, 0, 0, []⟩ ⟨(OwnL.nil _), hm, inferInstance⟩ ⟨rfl, rfl, trivial⟩ ?_
    rintro ⟨i62, v55, p56, n57, c58, L60⟩ σq64 hq64 Lq64 sq64 ⟨f59, hm, hspq64⟩
    refine J.sp hspq64 ?_
    refine J.seq ?_
    refine J.region ?_
    refine o_q (q_lss rfl rfl) ?_
    refine JL.nil ?_
    refine J.seq ?_
    by_cases c68 : (i62 : Int) < (x42.length : Int)
    ·
      obtain ⟨x69, o66, hl70, hx71, hm, hk67⟩ := forL_cons c68 hm
      unfold M.sparse_From_b1 at hm
      refine J.condT rfl (decide_eq_true c68) ?_
      have k72 : -9223372036854775808 ≤ (i62 : Int) + 1 ∧ (i62 : Int) + 1 ≤ 9223372036854775807 := by omega
      refine J.skip ?_
      refine J.seq ?_
      refine J.block ?_
      refine J.seq ?_
      obtain ⟨b73, o74, rfl⟩ := Sls.op f54 hl70
      obtain ⟨us75, hc76, hR77⟩ := Sls.at f54 hx71
      obtain ⟨g78, p79, n80, c81, rfl, f82⟩ := IntR.op hR77
      refine J.region ?_
      first | refine o_q (q_mvv (v := .int _ _) rfl) ?_ | refine o_q (q_mv) ?_
      refine o_q (q_ian rfl rfl rfl (by first | exact hl70 | (rw [Sls.len f54]; exact hl70))) ?_
      refine o_q (q_ldfa rfl hc76) ?_
      refine o_al (fun b83 => ?_)
      first | refine o_q (q_asv (v := .int _ _) rfl) ?_ | refine o_q (q_as) ?_
      first | refine o_stc (vs := [.bool _, .slice _ _ _]) (l' := [.bool _, .slice _ _ _]) rfl rfl rfl rfl rfl inferInstance rfl rfl ?_ | refine o_stc (vs := [_, _]) (l' := [_, _]) rfl rfl rfl rfl rfl inferInstance rfl rfl ?_
      refine JL.nil ?_
      refine J.seq ?_
      obtain ⟨y89, e88, hm⟩ := bnd_some hm
      refine J.region ?_
      refine o_q (q_lda (vs := [_, _]) rfl inferInstance ⟨rfl, rfl, trivial⟩) ?_
      refine o_call (sign_fn' (IntR.at (Mo.up f82)) e88) (fun v84 h85 s86 r87 => ?_)
      obtain rfl := (show _ = _ from r87)
      refine o_q (q_neq rfl rfl) ?_
      refine JL.nil ?_
      by_cases c90 : y89 = 0
      ·
        replace hm := ite_T c90 hm
        refine J.condF rfl (decide_eq_false (fun z => z c90)) ?_
        refine J.skip ?_
        refine J.region ?_
        refine o_q (q_add rfl rfl (wi64 k72)) ?_
        first | refine o_q (q_mvv (v := .int _ _) rfl) ?_ | refine o_q (q_mv) ?_
        refine JL.nil ?_
        replace hm := inl_onward hm hk67
        exact ⟨⟨i62 + 1, v55, p56, n57, c58, L60⟩, rfl, ⟨rfl, rfl, rfl, rfl, rfl, rfl, rfl, trivial⟩, ⟨rfl, rfl, trivial⟩, ⟨(OwnL.mono f59), hm, inferInstance⟩, (muL hl70), inferInstance⟩
      ·
        replace hm := ite_F c90 hm
        refine J.condT rfl (decide_eq_true c90) ?_
        obtain ⟨l94, e95, hm⟩ := bnd_some hm
        refine J.region ?_
        first | refine o_q (q_mvv (v := .slice _ _ _) rfl) ?_ | refine o_q (q_mv) ?_
        first | refine o_q (q_mvv (v := .int _ _) rfl) ?_ | refine o_q (q_mv) ?_
        refine o_q (q_lda (vs := [_, _]) rfl inferInstance ⟨rfl, rfl, trivial⟩) ?_
        first | refine o_q (q_bd [.int _ _, .bool _, .slice _ _ _] rfl) ?_ | refine o_q (q_bd [_, _, _] rfl) ?_
        first | refine o_bs [.int _ _, .bool _, .slice _ _ _] (by decide) rfl (fun b91 => ?_) | refine o_bs [_, _, _] (by decide) rfl (fun b91 => ?_)
        refine JL.fact (fun h => Cells TTermR 3 h [.int .i64 (i62 : Int), .bool g78, .slice p79 n80 c81] [(TTerm.mk (i62 : Int) x69)]) (show Cells TTermR 3 _ [.int .i64 (i62 : Int), .bool g78, .slice p79 n80 c81] [(TTerm.mk (i62 : Int) x69)] from (Cells.cons (R := TTermR) (us := [.int .i64 (i62 : Int), .bool g78, .slice p79 n80 c81]) rfl ⟨_, _, _, _, rfl, (Mo.up f82)⟩ Cells.nil)) (fun hc92 => ?_)
        refine JL.fact (fun h => OwnL TTermR 71 3 h (.slice (some ⟨b91, 0, none⟩) 1 1) [(TTerm.mk (i62 : Int) x69)] [(b91, row 71 [.int .i64 (i62 : Int), .bool g78, .slice p79 n80 c81])]) (OwnL.lit _ rfl hc92 rfl) (fun ho93 => ?_)
        refine o_appB (R := TTermR) rfl rfl (OwnL.mono f59) inferInstance hc92 e95 (fun p96 c97 L98 ho99 => ?_)
        first | refine o_q (q_asv (v := .slice _ _ _) rfl) ?_ | refine o_q (q_as) ?_
        refine JL.nil ?_
        refine J.region ?_
        refine o_q (q_add rfl rfl (wi64 k72)) ?_
        first | refine o_q (q_mvv (v := .int _ _) rfl) ?_ | refine o_q (q_mv) ?_
        refine JL.nil ?_
        replace hm := inl_onward hm hk67
        exact ⟨⟨i62 + 1, l94, p96, l94.length, c97, L98⟩, rfl, ⟨rfl, rfl, rfl, rfl, rfl, rfl, rfl, trivial⟩, ⟨rfl, rfl, trivial⟩, ⟨(OwnL.mono ho99), hm, inferInstance⟩, (muL hl70), inferInstance⟩
    ·
      replace hm := forL_nil c68 hm
      unfold M.sparse_From_k1 at hm
      refine J.condF rfl (decide_eq_false c68) ?_
      refine J.exit ?_
      refine J.fzO (R := TTermR) (OwnL.mono f59) (fun h100 s101 f102 => ?_)
      obtain ⟨l106, e107, hm⟩ := bnd_some hm
      refine J.region ?_
      refine o_q (q_fa rfl) ?_
      refine o_q (q_ld rfl inferInstance rfl) ?_
      first | refine o_q (q_mvv (v := .slice _ _ _) rfl) ?_ | refine o_q (q_mv) ?_
      first | refine o_bs [.slice _ _ _] (by decide) rfl (fun b103 => ?_) | refine o_bs [_] (by decide) rfl (fun b103 => ?_)
      refine JL.fact (fun h => Cells (LR TTermR 3) 1 h [.slice p56 n57 c58] [v55]) (show Cells (LR TTermR 3) 1 _ [.slice p56 n57 c58] [v55] from (Cells.cons (R := (LR TTermR 3)) (us := [.slice p56 n57 c58]) rfl ⟨_, _, _, rfl, Sls.mono f102⟩ Cells.nil)) (fun hc104 => ?_)
      refine JL.fact (fun h => OwnL (LR TTermR 3) 26 1 h (.slice (some ⟨b103, 0, none⟩) 1 1) [v55] [(b103, row 26 [.slice p56 n57 c58])]) (OwnL.lit _ rfl hc104 rfl) (fun ho105 => ?_)
      refine o_appB (R := (LR TTermR 3)) rfl rfl (OwnL.mono f32) inferInstance hc104 e107 (fun p108 c109 L110 ho111 => ?_)
      refine o_q (q_fa rfl) ?_
      first | refine o_stc (vs := [.slice _ _ _]) (l' := [.int _ _, .int _ _, .slice _ _ _]) rfl rfl rfl rfl rfl inferInstance rfl rfl ?_ | refine o_stc (vs := [_]) (l' := [_, _, _]) rfl rfl rfl rfl rfl inferInstance rfl rfl ?_
      refine JL.nil ?_
      refine J.region ?_
      refine o_q (q_add rfl rfl (wi64 k45)) ?_
      first | refine o_q (q_mvv (v := .int _ _) rfl) ?_ | refine o_q (q_mv) ?_
      refine JL.nil ?_
      replace hm := inl_onward hm hk40
      exact ⟨⟨i35 + 1, l106, p108, l106.length, c109, L110⟩, rfl, ⟨rfl, rfl, rfl, rfl, trivial⟩, ⟨rfl, trivial⟩, ⟨(OwnL.mono ho111), hm, inferInstance⟩, (muL hl43), inferInstance⟩
  ·
    replace hm := forL_nil c41 hm
    unfold M.sparse_From_k2 at hm
    refine J.condF rfl (decide_eq_false c41) ?_
    refine J.exit ?_
    refine J.seq ?_
    refine J.region ?_
    refine o_q (q_lda (vs := [_, _, _]) rfl inferInstance ⟨rfl, rfl, rfl, trivial⟩) ?_
    first | refine o_stc (vs := [.int _ _, .int _ _, .slice _ _ _]) (l' := [.int _ _, .int _ _, .slice _ _ _]) rfl rfl rfl rfl rfl inferInstance rfl rfl ?_ | refine o_stc (vs := [_, _, _]) (l' := [_, _, _]) rfl rfl rfl rfl rfl inferInstance rfl rfl ?_
    refine JL.nil ?_
    refine J.fzO (R := (LR TTermR 3)) (OwnL.mono f32) (fun h112 s113 f114 => ?_)
    refine J.ret ?_
    obtain rfl := Option.some.inj hm
    exact ret_ok (fn := Try.f33) rfl (.agg rfl inferInstance inferInstance .nil) ⟨_, rfl, ⟨_, _, _, rfl, Sls.mono f114⟩⟩
set_option maxHeartbeats 4000000 in
theorem matrix_New_1_fn {h : Heap} {x0 : Int} {x1 : Int} {r : Int} (hm : M.matrix_New_1 x0 x1 = some r) :
    Fn Try.prog 75 #[.int .i64 x0, .int .i64 x1] h fun v h' => IntAt h' v r := by
  refine Fn.intro (args := [_, _]) Try.func75 rfl rfl (Nat.le_of_ble_eq_true rfl) fun w => ?_
  unfold M.matrix_New_1 at hm
  refine J.seq ?_
  refine J.region ?_
  refine o_al (fun b21 => ?_)
  refine JL.nil ?_
  refine J.seq ?_
  refine J.region ?_
  refine o_q (q_bd [.bool _, .slice _ _ _] rfl) ?_
  first | refine o_stc (vs := [.bool _, .slice _ _ _]) (l' := [.bool _, .slice _ _ _]) rfl rfl rfl rfl rfl inferInstance rfl rfl ?_ | refine o_stc (vs := [_, _]) (l' := [_, _]) rfl rfl rfl rfl rfl inferInstance rfl rfl ?_
  refine JL.nil ?_
  refine J.ret ?_
  obtain rfl := Option.some.inj hm
  exact ret_ok (fn := Try.f75) rfl (.agg rfl inferInstance inferInstance .nil) (IntR.at (IntR.zero0 _))
set_option maxHeartbeats 4000000 in
theorem matrix_build_own {rr : Option Nat} {nn : Nat} {w0 : World} {h0 h : Heap} {L : Own} {x0 : Int} {x1 : Int} {x2 : Int → Int → Option Int} {g2_ : FuncId} {cap2_ : List Value} [Ent Try.prog g2_] (r2 : ∀ {h' : Heap}, Ext h h' → ∀ (a0 : Int) (a1 : Int) (w0 : Value) (w1 : Value), w0 = .int .i64 a0 → w1 = .int .i64 a1 → ∀ c, x2 a0 a1 = some c → Fn Try.prog g2_ (List.toArray ([] ++ [w0, w1] ++ cap2_)) h' (fun v h'' => IntAt h'' v c)) {r : TMat} (hm : M.matrix_build x0 x1 x2 = some r) :
    FnIn ⟨Try.prog, rr, nn, w0, h0⟩ 74 #[.int .i64 x0, .int .i64 x1, .func (.func g2_) ⟨[]⟩ ⟨cap2_⟩] h L fun v h' L' => ∃ (b2 : Nat) (hs2 : List Value) (n2 c2 : Nat) (M2 : Own), v = .agg ⟨[.int .i64 r.Rows, .int .i64 r.Cols, .slice (some ⟨b2, 0, none⟩) n2 c2]⟩ ∧ OwnLL IntR 37 2 h' hs2 c2 r.A M2 ∧ n2 = r.A.length ∧ L' = [(b2, row 32 hs2)] ++ (M2 ++ L) := by
  refine FnIn.intro (args := [_, _, _]) Try.func74 rfl rfl (Nat.le_of_ble_eq_true rfl) ?_
  refine J.seq ?_
  refine J.region ?_
  refine o_al (fun b21 => ?_)
  refine JL.nil ?_
  refine J.seq ?_
  obtain ⟨l22, e26, hm⟩ := bnd_some hm
  refine J.region ?_
  first | refine o_q (q_mvv (v := .int _ _) rfl) ?_ | refine o_q (q_mv) ?_
  first | refine o_q (q_mvv (v := .int _ _) rfl) ?_ | refine o_q (q_mv) ?_
  first | refine o_q (q_mvv (v := .int _ _) rfl) ?_ | refine o_q (q_mv) ?_
  refine o_mkLL (R := IntR) (T := 37) (sz := 2) rfl rfl e26 (fun b23 hs24 w25 => ?_)
  first | refine o_q (q_bd [.int _ _, .int _ _, .slice _ _ _] rfl) ?_ | refine o_q (q_bd [_, _, _] rfl) ?_
  refine o_al (fun b27 => ?_)
  first | refine o_stc (vs := [.int _ _, .int _ _, .slice _ _ _]) (l' := [.int _ _, .int _ _, .slice _ _ _]) rfl rfl rfl rfl rfl inferInstance rfl rfl ?_ | refine o_stc (vs := [_, _, _]) (l' := [_, _, _]) rfl rfl rfl rfl rfl inferInstance rfl rfl ?_
  refine JL.nil ?_
  refine J.seq ?_
  refine J.seq ?_
  refine J.region ?_
  first | refine o_q (q_mvv (v := .int _ _) rfl) ?_ | refine o_q (q_mv) ?_
  first | refine o_q (q_mvv (v := .int _ _) rfl) ?_ | refine o_q (q_mv) ?_
  refine JL.nil ?_
  refine J.block ?_
  obtain ⟨k38, hm⟩ := rngN_some hm
  refine J.loopK (α := Int × (List (List Int)) × Nat × (List Value) × Nat × Nat × Own) (fun ⟨i37, v28, b29, hs30, n31, c32, M33⟩ h' L' => (OwnLL IntR 37 2 h' hs30 c32 v28 M33 ∧ n31 = v28.length) ∧ 0 ≤ i37 ∧ forN (M.matrix_build_b2 x1 x2) (M.matrix_build_k2 x0 x1) x0 i37 v28 = some r ∧ Sp ([(b29, row 32 hs30)] ++ (M33 ++ ((b21, row 50 [.int .i64 0, .int .i64 0, .slice none 0 0]) :: (b27, row 50 [.int .i64 x0, .int .i64 x1, .slice (some ⟨b29, 0, none⟩) n31 c32]) :: L))) L') [(1, .int _ _), (2, .func _ _ _), (6, .pointer _), (7, .pointer _), (15, .int _ _)] ⟨rfl, rfl, rfl, rfl, rfl, trivial⟩ (fun ⟨i37, v28, b29, hs30, n31, c32, M33⟩ => [(16, .int .i64 i37)]) (fun ⟨i37, v28, b29, hs30, n31, c32, M33⟩ => (x0 - i37).toNat) ⟨0, l22, b23, hs24, l22.length, l22.length, []⟩ ⟨⟨OwnLL.mono w25, rfl⟩, Int.le_refl _, hm, inferInstance⟩ ⟨rfl, trivial⟩ ?_
  rintro ⟨i37, v28, b29, hs30, n31, c32, M33⟩ σq39 hq39 Lq39 sq39 ⟨⟨w34, hn35⟩, hle40, hm, hspq39⟩
  refine J.sp hspq39 ?_
  refine J.seq ?_
  refine J.region ?_
  refine o_q (q_lss rfl rfl) ?_
  refine JL.nil ?_
  refine J.seq ?_
  by_cases c43 : i37 < x0
  ·
    obtain ⟨o41, hm, hk42⟩ := forN_lt c43 hm
    unfold M.matrix_build_b2 at hm
    refine J.condT rfl (decide_eq_true c43) ?_
    have k44 : -9223372036854775808 ≤ i37 + 1 ∧ i37 + 1 ≤ 9223372036854775807 := by omega
    refine J.skip ?_
    refine J.seq ?_
    refine J.block ?_
    refine J.seq ?_
    refine J.region ?_
    first | refine o_q (q_mvv (v := .int _ _) rfl) ?_ | refine o_q (q_mv) ?_
    first | refine o_q (q_asv (v := .int _ _) rfl) ?_ | refine o_q (q_as) ?_
    refine JL.nil ?_
    refine J.seq ?_
    obtain ⟨l45, e50, hm⟩ := bnd_some hm
    obtain ⟨i52, x51, hi53, hl54, hx55, hm⟩ := nth_some hm
    obtain ⟨p56, n57, c58, hh59, hn60⟩ := OwnLL.hdr w34 hx55
    obtain ⟨L61, M62, rm63, rm64, ho65, K66⟩ := OwnLL.row w34 hx55 hh59
    refine J.drawB [b27] [] ?_
    refine JD.calc 0 (by kernel_rfl) rfl trivial ss_subB (q_fa rfl) ?_
    refine JD.loadB 1 (by kernel_rfl) rfl trivial (q_ld rfl inferInstance rfl) ?_
    first | refine JD.calc 2 (by kernel_rfl) rfl trivial ss_subB (q_mvv (v := .int _ _) rfl) ?_ | refine JD.calc 2 (by kernel_rfl) rfl trivial ss_subB (q_mv) ?_
    first | refine JD.calc 3 (by kernel_rfl) rfl trivial ss_subB (q_mvv (v := .int _ _) rfl) ?_ | refine JD.calc 3 (by kernel_rfl) rfl trivial ss_subB (q_mv) ?_
    refine JD.one 4 (by kernel_rfl) ?_
    refine JX.effB rfl rfl trivial ?_
    refine o_mkO (R := IntR) rfl rfl e50 (IntR.zero0 _) (fun p46 c47 L48 ho49 => ?_)
    refine JL.nil ⟨rfl, inferInstance, inferInstance, ?_⟩
    refine JD.calc 5 (by kernel_rfl) rfl trivial ss_subB (q_ian rfl rfl hi53 (by rw [show n31 = _ from hn35]; exact hl54)) ?_
    refine JD.one 6 (by kernel_rfl) ?_
    refine JX.effB rfl rfl trivial ?_
    refine o_stH rfl rfl inferInstance (OwnLL.hlen w34 hx55) ?_
    refine JL.fact (fun h => OwnLL IntR 37 2 h (hs30.set i52 (.slice p46 l45.length c47)) c32 (setL v28 i37 l45) (L48 ++ M62)) (by rw [setL_eq hi53]; exact K66 _ _ _ _ _ _ inferInstance (OwnL.mono ho49)) (fun w67 => ?_)
    refine JL.nil ⟨rfl, inferInstance, inferInstance, ?_⟩
    refine JD.done (by kernel_rfl) ?_ _
    --
    refine J.seq ?_
    refine J.region ?_
    first | refine o_q (q_mvv (v := .int _ _) rfl) ?_ | refine o_q (q_mv) ?_
    first | refine o_q (q_mvv (v := .int _ _) rfl) ?_ | refine o_q (q_mv) ?_
    refine JL.nil ?_
    refine J.block ?_
    obtain ⟨k78, hm⟩ := rngN_some hm
    refine J.loopK (α := Int × (List (List Int)) × Nat × (List Value) × Nat × Nat × Own) (fun ⟨i77, v68, b69, hs70, n71, c72, M73⟩ h' L' => (OwnLL IntR 37 2 h' hs70 c72 v68 M73 ∧ n71 = v68.length) ∧ 0 ≤ i77 ∧ forN (M.matrix_build_b1 x2 i37) M.matrix_build_k1 x1 i77 v68 = some o41 ∧ Sp ([(b69, row 32 hs70)] ++ (M73 ++ ((b21, row 50 [.int .i64 0, .int .i64 0, .slice none 0 0]) :: (b27, row 50 [.int .i64 x0, .int .i64 x1, .slice (some ⟨b69, 0, none⟩) n71 c72]) :: L))) L') [(1, .int _ _), (2, .func _ _ _), (6, .pointer _), (7, .pointer _), (8, .int _ _), (15, .int _ _), (16, .int _ _), (25, .int _ _)] ⟨rfl, rfl, rfl, rfl, rfl, rfl, rfl, rfl, trivial⟩ (fun ⟨i77, v68, b69, hs70, n71, c72, M73⟩ => [(26, .int .i64 i77)]) (fun ⟨i77, v68, b69, hs70, n71, c72, M73⟩ => (x1 - i77).toNat) ⟨0, (setL v28 i37 l45), b29, (hs30.set i52 (.slice p46 l45.length c47)), n31, c32, (L48 ++ M62)⟩ ⟨⟨OwnLL.mono w67, (setL_hn hn35)⟩, Int.le_refl _, hm, inferInstance⟩ ⟨rfl, trivial⟩ ?_
    rintro ⟨i77, v68, b69, hs70, n71, c72, M73⟩ σq79 hq79 Lq79 sq79 ⟨⟨w74, hn75⟩, hle80, hm, hspq79⟩
    refine J.sp hspq79 ?_
    refine J.seq ?_
    refine J.region ?_
    refine o_q (q_lss rfl rfl) ?_
    refine JL.nil ?_
    refine J.seq ?_
    by_cases c83 : i77 < x1
    ·
      obtain ⟨o81, hm, hk82⟩ := forN_lt c83 hm
      unfold M.matrix_build_b1 at hm
      refine J.condT rfl (decide_eq_true c83) ?_
      have k84 : -9223372036854775808 ≤ i77 + 1 ∧ i77 + 1 ≤ 9223372036854775807 := by omega
      refine J.skip ?_
      refine J.seq ?_
      refine J.block ?_
      refine J.seq ?_
      refine J.region ?_
      first | refine o_q (q_mvv (v := .int _ _) rfl) ?_ | refine o_q (q_mv) ?_
      first | refine o_q (q_asv (v := .int _ _) rfl) ?_ | refine o_q (q_as) ?_
      refine JL.nil ?_
      obtain ⟨i86, x85, hi87, hl88, hx89, hm⟩ := nth_some hm
      obtain ⟨p90, n91, c92, hh93, hn94⟩ := OwnLL.hdr w74 hx89
      obtain ⟨y100, e99, hm⟩ := bnd_some hm
      obtain ⟨i107, x106, hi108, hl109, hx110, hm⟩ := nth_some hm
      obtain ⟨b120, cs111, us112, f113, rfl, at114, oc115, hk116, hR117, hus118, K119⟩ := OwnLL.cell w74 hx89 hh93 hx110
      obtain ⟨g121, p122, n123, c124, rfl, f125⟩ := IntR.op hR117
      refine J.drawB [b27, b69] [] ?_
      refine JD.calc 0 (by kernel_rfl) rfl trivial ss_subB (q_fa rfl) ?_
      refine JD.loadB 1 (by kernel_rfl) rfl trivial (q_ld rfl inferInstance rfl) ?_
      first | refine JD.calc 2 (by kernel_rfl) rfl trivial ss_subB (q_mvv (v := .int _ _) rfl) ?_ | refine JD.calc 2 (by kernel_rfl) rfl trivial ss_subB (q_mv) ?_
      refine JD.calc 3 (by kernel_rfl) rfl trivial ss_subB (q_ian rfl rfl hi87 (by rw [show n71 = _ from hn75]; exact hl88)) ?_
      refine JD.loadB 4 (by kernel_rfl) rfl trivial (q_ld rfl inferInstance (hdr_at hh93)) ?_
      first | refine JD.calc 5 (by kernel_rfl) rfl trivial ss_subB (q_mvv (v := .int _ _) rfl) ?_ | refine JD.calc 5 (by kernel_rfl) rfl trivial ss_subB (q_mv) ?_
      first | refine JD.calc 6 (by kernel_rfl) rfl trivial ss_subB (q_mvv (v := .func _ _ _) rfl) ?_ | refine JD.calc 6 (by kernel_rfl) rfl trivial ss_subB (q_mv) ?_
      first | refine JD.calc 7 (by kernel_rfl) rfl trivial ss_subB (q_mvv (v := .int _ _) rfl) ?_ | refine JD.calc 7 (by kernel_rfl) rfl trivial ss_subB (q_mv) ?_
      first | refine JD.calc 8 (by kernel_rfl) rfl trivial ss_subB (q_mvv (v := .int _ _) rfl) ?_ | refine JD.calc 8 (by kernel_rfl) rfl trivial ss_subB (q_mv) ?_
      refine JD.one 9 (by kernel_rfl) ?_
      refine JX.effB rfl rfl trivial ?_
      refine o_callv (f := g2_) rfl (r2 inferInstance _ _ _ _ rfl rfl _ e99) (fun v95 h96 s97 r98 => ?_)
      obtain ⟨g101, p102, n103, c104, rfl, f105⟩ := IntAt.op r98
      refine JL.nil ⟨rfl, inferInstance, inferInstance, ?_⟩
      refine JD.calc 10 (by kernel_rfl) rfl trivial ss_subB (q_ian rfl rfl hi108 (by rw [show n91 = _ from hn94]; exact hl109)) ?_
      refine JD.one 11 (by kernel_rfl) ?_
      refine JX.effB rfl rfl trivial ?_
      refine o_stLL0 (us1 := [_, _]) (ps := [_, _]) (a := y100) Sz.i rfl rfl rfl rfl (OwnC.mono oc115) inferInstance hl109 hk116 rfl (Nat.le_of_ble_eq_true rfl) rfl (Mo.up f105) (setL_eq hi108) (fun cs126 oc127 => ?_)
      refine JL.fact (fun h => OwnLL IntR 37 2 h hs70 c72 (setL v68 i37 (setL x85 i77 y100)) (f113 (row 37 cs126))) (by rw [setL_eq hi87]; exact K119 _ _ _ inferInstance oc127 setL_len (fun e x => Mo.m e x)) (fun w128 => ?_)
      refine JL.nil ⟨rfl, inferInstance, inferInstance, ?_⟩
      refine JD.done (by kernel_rfl) ?_ _
      --
      refine J.region ?_
      refine o_q (q_add rfl rfl (wi64 k84)) ?_
      first | refine o_q (q_mvv (v := .int _ _) rfl) ?_ | refine o_q (q_mv) ?_
      refine JL.nil ?_
      replace hm := inl_onward hm hk82
      exact ⟨⟨i77 + 1, (setL v68 i37 (setL x85 i77 y100)), b69, hs70, n71, c72, (f113 (row 37 cs126))⟩, rfl, ⟨rfl, rfl, rfl, rfl, rfl, rfl, rfl, rfl, trivial⟩, ⟨rfl, trivial⟩, ⟨⟨OwnLL.mono w128, (setL_hn hn75)⟩, Int.le_trans hle80 (Int.le_of_lt (Int.lt_succ _)), hm, inferInstance⟩, (muN c83), inferInstance⟩
    ·
      replace hm := forN_ge c83 hm
      unfold M.matrix_build_k1 at hm
      refine J.condF rfl (decide_eq_false c83) ?_
      refine J.exit ?_
      refine J.region ?_
      refine o_q (q_add rfl rfl (wi64 k44)) ?_
      first | refine o_q (q_mvv (v := .int _ _) rfl) ?_ | refine o_q (q_mv) ?_
      refine JL.nil ?_
      replace hm := inl_onward hm hk42
      exact ⟨⟨i37 + 1, v68, b69, hs70, n71, c72, M73⟩, rfl, ⟨rfl, rfl, rfl, rfl, rfl, trivial⟩, ⟨rfl, trivial⟩, ⟨⟨OwnLL.mono w74, hn75⟩, Int.le_trans hle40 (Int.le_of_lt (Int.lt_succ _)), hm, inferInstance⟩, (muN c43), inferInstance⟩
  ·
    replace hm := forN_ge c43 hm
    unfold M.matrix_build_k2 at hm
    refine J.condF rfl (decide_eq_false c43) ?_
    refine J.exit ?_
    refine J.seq ?_
    refine J.region ?_
    refine o_q (q_lda (vs := [_, _, _]) rfl inferInstance ⟨rfl, rfl, rfl, trivial⟩) ?_
    first | refine o_stc (vs := [.int _ _, .int _ _, .slice _ _ _]) (l' := [.int _ _, .int _ _, .slice _ _ _]) rfl rfl rfl rfl rfl inferInstance rfl rfl ?_ | refine o_stc (vs := [_, _, _]) (l' := [_, _, _]) rfl rfl rfl rfl rfl inferInstance rfl rfl ?_
    refine JL.nil ?_
    refine J.ret ?_
    obtain rfl := Option.some.inj hm
    exact ret_okS (fn := Try.f74) (L2 := [(b29, row 32 hs30)] ++ (M33 ++ L)) rfl (.agg rfl inferInstance inferInstance .nil) inferInstance ⟨b29, hs30, n31, c32, M33, rfl, OwnLL.mono w34, hn35, rfl⟩
set_option maxHeartbeats 4000000 in
theorem matrix_New_own {rr : Option Nat} {nn : Nat} {w0 : World} {h0 h : Heap} {L : Own} {x0 : Int} {x1 : Int} {r : TMat} (hm : M.matrix_New x0 x1 = some r) :
    FnIn ⟨Try.prog, rr, nn, w0, h0⟩ 60 #[.int .i64 x0, .int .i64 x1] h L fun v h' L' => ∃ (b2 : Nat) (hs2 : List Value) (n2 c2 : Nat) (M2 : Own), v = .agg ⟨[.int .i64 r.Rows, .int .i64 r.Cols, .slice (some ⟨b2, 0, none⟩) n2 c2]⟩ ∧ OwnLL IntR 37 2 h' hs2 c2 r.A M2 ∧ n2 = r.A.length ∧ L' = [(b2, row 32 hs2)] ++ (M2 ++ L) := by
  refine FnIn.intro (args := [_, _]) Try.func60 rfl rfl (Nat.le_of_ble_eq_true rfl) ?_
  refine J.seq ?_
  refine J.region ?_
  refine o_al (fun b21 => ?_)
  refine JL.nil ?_
  refine J.seq ?_
  obtain ⟨y27, e26, hm⟩ := bnd_some hm
  refine J.region ?_
  first | refine o_q (q_mvv (v := .int _ _) rfl) ?_ | refine o_q (q_mv) ?_
  first | refine o_q (q_mvv (v := .int _ _) rfl) ?_ | refine o_q (q_mv) ?_
  refine o_calll (matrix_build_own (fun e a0 a1 w0 w1 q0 q1 c hc => by obtain rfl := (show _ = _ from q0); obtain rfl := (show _ = _ from q1); exact matrix_New_1_fn  hc) e26) (fun v22 h23 L28 s24 r25 => ?_)
  obtain ⟨b29, hs30, n31, c32, M33, rfl, w34, hn35, rfl⟩ := r25
  first | refine o_stc (vs := [.int _ _, .int _ _, .slice _ _ _]) (l' := [.int _ _, .int _ _, .slice _ _ _]) rfl rfl rfl rfl rfl inferInstance rfl rfl ?_ | refine o_stc (vs := [_, _, _]) (l' := [_, _, _]) rfl rfl rfl rfl rfl inferInstance rfl rfl ?_
  refine JL.nil ?_
  refine J.ret ?_
  obtain rfl := Option.some.inj hm
  exact ret_okS (fn := Try.f60) (L2 := [(b29, row 32 hs30)] ++ (M33 ++ L)) rfl (.agg rfl inferInstance inferInstance .nil) inferInstance ⟨b29, hs30, n31, c32, M33, rfl, OwnLL.mono w34, hn35, rfl⟩
set_option maxHeartbeats 4000000 in
theorem sparse_To_fn {h : Heap} {x0 : TSparse} {v0 : Value} (r0 : AggV TSparseR h v0 x0) {r : TMat} (hm : M.sparse_To x0 = some r) :
    Fn Try.prog 34 #[v0] h fun v h' => AggV TMatR h' v r := by
  obtain ⟨_, rfl, p21, n22, c23, rfl, f24⟩ := r0
  refine Fn.intro (args := [_]) Try.func34 rfl rfl (Nat.le_of_ble_eq_true rfl) fun w => ?_
  unfold M.sparse_To at hm
  refine J.seq ?_
  refine J.region ?_
  first | refine o_bx (v := .agg ⟨[.int _ _, .int _ _, .slice _ _ _]⟩) rfl rfl (fun b25 => ?_) | refine o_bx rfl rfl (fun b25 => ?_)
  refine o_al (fun b26 => ?_)
  refine JL.nil ?_
  refine J.seq ?_
  obtain ⟨y32, e31, hm⟩ := bnd_some hm
  refine J.region ?_
  refine o_q (q_fa rfl) ?_
  refine o_q (q_ld rfl inferInstance rfl) ?_
  refine o_q (q_fa rfl) ?_
  refine o_q (q_ld rfl inferInstance rfl) ?_
  refine o_calll (matrix_New_own e31) (fun v27 h28 L33 s29 r30 => ?_)
  obtain ⟨b34, hs35, n36, c37, M38, rfl, w39, hn40, rfl⟩ := r30
  refine o_al (fun b41 => ?_)
  first | refine o_stc (vs := [.int _ _, .int _ _, .slice _ _ _]) (l' := [.int _ _, .int _ _, .slice _ _ _]) rfl rfl rfl rfl rfl inferInstance rfl rfl ?_ | refine o_stc (vs := [_, _, _]) (l' := [_, _, _]) rfl rfl rfl rfl rfl inferInstance rfl rfl ?_
  refine JL.nil ?_
  refine J.seq ?_
  refine J.seq ?_
  refine J.region ?_
  refine o_q (q_fa rfl) ?_
  refine o_q (q_ld rfl inferInstance rfl) ?_
  refine o_q (q_lenE (k := x0.L.length) rfl (Sls.len f24)) ?_
  first | refine o_q (q_mvv (v := .int _ _) rfl) ?_ | refine o_q (q_mv) ?_
  refine JL.nil ?_
  refine J.block ?_
  obtain ⟨hl52, hm⟩ := rngL_some hm
  refine J.loopK (α := Nat × (List (List Int)) × Nat × (List Value) × Nat × Nat × Own) (fun ⟨i51, v42, b43, hs44, n45, c46, M47⟩ h' L' => (OwnLL IntR 37 2 h' hs44 c46 v42 M47 ∧ n45 = v42.length) ∧ forL M.sparse_To_b2 (M.sparse_To_k2 y32) (List.drop i51 x0.L) i51 v42 = some r ∧ Sp ([(b43, row 32 hs44)] ++ (M47 ++ ([(b26, row 50 [.int .i64 0, .int .i64 0, .slice none 0 0]), (b41, row 50 [.int .i64 y32.Rows, .int .i64 y32.Cols, .slice (some ⟨b43, 0, none⟩) n45 c46])]))) L') [(2, .pointer _), (3, .pointer _), (14, .slice _ _ _), (15, .int _ _)] ⟨rfl, rfl, rfl, rfl, trivial⟩ (fun ⟨i51, v42, b43, hs44, n45, c46, M47⟩ => [(16, .int .i64 (i51 : Int))]) (fun ⟨i51, v42, b43, hs44, n45, c46, M47⟩ => x0.L.length - i51) ⟨0, y32.A, b34, hs35, n36, c37, M38⟩ ⟨⟨OwnLL.mono w39, hn40⟩, hm, inferInstance⟩ ⟨rfl, trivial⟩ ?_
  rintro ⟨i51, v42, b43, hs44, n45, c46, M47⟩ σq53 hq53 Lq53 sq53 ⟨⟨w48, hn49⟩, hm, hspq53⟩
  refine J.sp hspq53 ?_
  refine J.seq ?_
  refine J.region ?_
  refine o_q (q_lss rfl rfl) ?_
  refine JL.nil ?_
  refine J.seq ?_
  by_cases c57 : (i51 : Int) < (x0.L.length : Int)
  ·
    obtain ⟨x58, o55, hl59, hx60, hm, hk56⟩ := forL_cons c57 hm
    unfold M.sparse_To_b2 at hm
    refine J.condT rfl (decide_eq_true c57) ?_
    have k61 : -9223372036854775808 ≤ (i51 : Int) + 1 ∧ (i51 : Int) + 1 ≤ 9223372036854775807 := by omega
    refine J.skip ?_
    refine J.seq ?_
    refine J.block ?_
    refine J.seq ?_
    obtain ⟨b62, o63, rfl⟩ := Sls.op f24 hl59
    obtain ⟨us64, hc65, hR66⟩ := Sls.at f24 hx60
    obtain ⟨p67, n68, c69, rfl, f70⟩ := hR66
    refine J.region ?_
    first | refine o_q (q_mvv (v := .int _ _) rfl) ?_ | refine o_q (q_mv) ?_
    refine o_q (q_ian rfl rfl rfl (by first | exact hl59 | (rw [Sls.len f24]; exact hl59))) ?_
    refine o_q (q_ldf rfl hc65) ?_
    first | refine o_q (q_asv (v := .int _ _) rfl) ?_ | refine o_q (q_as) ?_
    first | refine o_q (q_asv (v := .slice _ _ _) rfl) ?_ | refine o_q (q_as) ?_
    refine JL.nil ?_
    refine J.seq ?_
    refine J.region ?_
    first | refine o_q (q_mvv (v := .slice _ _ _) rfl) ?_ | refine o_q (q_mv) ?_
    refine o_q (q_lenE (k := x58.length) rfl (Sls.len f70)) ?_
    first | refine o_q (q_mvv (v := .int _ _) rfl) ?_ | refine o_q (q_mv) ?_
    refine JL.nil ?_
    refine J.block ?_
    obtain ⟨hl81, hm⟩ := rngL_some hm
    refine J.loopK (α := Nat × (List (List Int)) × Nat × (List Value) × Nat × Nat × Own) (fun ⟨i80, v71, b72, hs73, n74, c75, M76⟩ h' L' => (OwnLL IntR 37 2 h' hs73 c75 v71 M76 ∧ n74 = v71.length) ∧ forL (M.sparse_To_b1 i51) M.sparse_To_k1 (List.drop i80 x58) i80 v71 = some o55 ∧ Sp ([(b72, row 32 hs73)] ++ (M76 ++ ([(b26, row 50 [.int .i64 0, .int .i64 0, .slice none 0 0]), (b41, row 50 [.int .i64 y32.Rows, .int .i64 y32.Cols, .slice (some ⟨b72, 0, none⟩) n74 c75])]))) L') [(2, .pointer _), (3, .pointer _), (4, .int _ _), (14, .slice _ _ _), (15, .int _ _), (16, .int _ _), (21, .slice _ _ _), (22, .int _ _)] ⟨rfl, rfl, rfl, rfl, rfl, rfl, rfl, rfl, trivial⟩ (fun ⟨i80, v71, b72, hs73, n74, c75, M76⟩ => [(23, .int .i64 (i80 : Int))]) (fun ⟨i80, v71, b72, hs73, n74, c75, M76⟩ => x58.length - i80) ⟨0, v42, b43, hs44, n45, c46, M47⟩ ⟨⟨OwnLL.mono w48, hn49⟩, hm, inferInstance⟩ ⟨rfl, trivial⟩ ?_
    rintro ⟨i80, v71, b72, hs73, n74, c75, M76⟩ σq82 hq82 Lq82 sq82 ⟨⟨w77, hn78⟩, hm, hspq82⟩
    refine J.sp hspq82 ?_
    refine J.seq ?_
    refine J.region ?_
    refine o_q (q_lss rfl rfl) ?_
    refine JL.nil ?_
    refine J.seq ?_
    by_cases c86 : (i80 : Int) < (x58.length : Int)
    ·
      obtain ⟨x87, o84, hl88, hx89, hm, hk85⟩ := forL_cons c86 hm
      unfold M.sparse_To_b1 at hm
      refine J.condT rfl (decide_eq_true c86) ?_
      have k90 : -9223372036854775808 ≤ (i80 : Int) + 1 ∧ (i80 : Int) + 1 ≤ 9223372036854775807 := by omega
      refine J.skip ?_
      refine J.seq ?_
      refine J.block ?_
      refine J.seq ?_
      obtain ⟨b91, o92, rfl⟩ := Sls.op f70 hl88
      obtain ⟨us93, hc94, hR95⟩ := Sls.at f70 hx89
      obtain ⟨g96, p97, n98, c99, rfl, f100⟩ := hR95
      refine J.region ?_
      refine o_q (q_ian rfl rfl rfl (by first | exact hl88 | (rw [Sls.len f70]; exact hl88))) ?_
      refine o_q (q_ldfa rfl hc94) ?_
      refine o_al (fun b101 => ?_)
      first | refine o_stc (vs := [.int _ _, .bool _, .slice _ _ _]) (l' := [.int _ _, .bool _, .slice _ _ _]) rfl rfl rfl rfl rfl inferInstance rfl rfl ?_ | refine o_stc (vs := [_, _, _]) (l' := [_, _, _]) rfl rfl rfl rfl rfl inferInstance rfl rfl ?_
      refine JL.nil ?_
      obtain ⟨i103, x102, hi104, hl105, hx106, hm⟩ := nth_some hm
      obtain ⟨p107, n108, c109, hh110, hn111⟩ := OwnLL.hdr w77 hx106
      obtain ⟨i113, x112, hi114, hl115, hx116, hm⟩ := nth_some hm
      obtain ⟨b126, cs117, us118, f119, rfl, at120, oc121, hk122, hR123, hus124, K125⟩ := OwnLL.cell w77 hx106 hh110 hx116
      obtain ⟨g127, p128, n129, c130, rfl, f131⟩ := IntR.op hR123
      refine J.drawB [b41, b72, b101] [] ?_
      refine JD.calc 0 (by kernel_rfl) rfl trivial ss_subB (q_fa rfl) ?_
      refine JD.loadB 1 (by kernel_rfl) rfl trivial (q_ld rfl inferInstance rfl) ?_
      first | refine JD.calc 2 (by kernel_rfl) rfl trivial ss_subB (q_mvv (v := .int _ _) rfl) ?_ | refine JD.calc 2 (by kernel_rfl) rfl trivial ss_subB (q_mv) ?_
      refine JD.calc 3 (by kernel_rfl) rfl trivial ss_subB (q_ian rfl rfl hi104 (by rw [show n74 = _ from hn78]; exact hl105)) ?_
      refine JD.loadB 4 (by kernel_rfl) rfl trivial (q_ld rfl inferInstance (hdr_at hh110)) ?_
      refine JD.calc 5 (by kernel_rfl) rfl trivial ss_subB (q_fa rfl) ?_
      refine JD.loadB 6 (by kernel_rfl) rfl trivial (q_ld rfl inferInstance rfl) ?_
      refine JD.calc 7 (by kernel_rfl) rfl trivial ss_subB (q_fa rfl) ?_
      refine JD.loadB 8 (by kernel_rfl) rfl trivial (q_lda (vs := [_, _]) rfl inferInstance ⟨rfl, rfl, trivial⟩) ?_
      refine JD.calc 9 (by kernel_rfl) rfl trivial ss_subB (q_ian rfl rfl hi114 (by rw [show n108 = _ from hn111]; exact hl115)) ?_
      refine JD.one 10 (by kernel_rfl) ?_
      refine JX.effB rfl rfl trivial ?_
      refine o_stLL0 (us1 := [_, _]) (ps := [_, _]) (a := x87.V) Sz.i rfl rfl rfl rfl (OwnC.mono oc121) inferInstance hl115 hk122 rfl (Nat.le_of_ble_eq_true rfl) rfl (Mo.up f100) (setL_eq hi114) (fun cs132 oc133 => ?_)
      refine JL.fact (fun h => OwnLL IntR 37 2 h hs73 c75 (setL v71 (i51 : Int) (setL x102 x87.Col x87.V)) (f119 (row 37 cs132))) (by rw [setL_eq hi104]; exact K125 _ _ _ inferInstance oc133 setL_len (fun e x => Mo.m e x)) (fun w134 => ?_)
      refine JL.nil ⟨rfl, inferInstance, inferInstance, ?_⟩
      refine JD.done (by kernel_rfl) ?_ _
      --
      refine J.region ?_
      refine o_q (q_add rfl rfl (wi64 k90)) ?_
      first | refine o_q (q_mvv (v := .int _ _) rfl) ?_ | refine o_q (q_mv) ?_
      refine JL.nil ?_
      replace hm := inl_onward hm hk85
      exact ⟨⟨i80 + 1, (setL v71 (i51 : Int) (setL x102 x87.Col x87.V)), b72, hs73, n74, c75, (f119 (row 37 cs132))⟩, rfl, ⟨rfl, rfl, rfl, rfl, rfl, rfl, rfl, rfl, trivial⟩, ⟨rfl, trivial⟩, ⟨⟨OwnLL.mono w134, (setL_hn hn78)⟩, hm, inferInstance⟩, (muL hl88), inferInstance⟩
    ·
      replace hm := forL_nil c86 hm
      unfold M.sparse_To_k1 at hm
      refine J.condF rfl (decide_eq_false c86) ?_
      refine J.exit ?_
      refine J.region ?_
      refine o_q (q_add rfl rfl (wi64 k61)) ?_
      first | refine o_q (q_mvv (v := .int _ _) rfl) ?_ | refine o_q (q_mv) ?_
      refine JL.nil ?_
      replace hm := inl_onward hm hk56
      exact ⟨⟨i51 + 1, v71, b72, hs73, n74, c75, M76⟩, rfl, ⟨rfl, rfl, rfl, rfl, trivial⟩, ⟨rfl, trivial⟩, ⟨⟨OwnLL.mono w77, hn78⟩, hm, inferInstance⟩, (muL hl59), inferInstance⟩
  ·
    replace hm := forL_nil c57 hm
    unfold M.sparse_To_k2 at hm
    refine J.condF rfl (decide_eq_false c57) ?_
    refine J.exit ?_
    refine J.seq ?_
    refine J.region ?_
    refine o_q (q_lda (vs := [_, _, _]) rfl inferInstance ⟨rfl, rfl, rfl, trivial⟩) ?_
    first | refine o_stc (vs := [.int _ _, .int _ _, .slice _ _ _]) (l' := [.int _ _, .int _ _, .slice _ _ _]) rfl rfl rfl rfl rfl inferInstance rfl rfl ?_ | refine o_stc (vs := [_, _, _]) (l' := [_, _, _]) rfl rfl rfl rfl rfl inferInstance rfl rfl ?_
    refine JL.nil ?_
    refine J.fzLL (b := b43) (T2 := 32) (OwnLL.mono w48) hn49 (fun h135 s136 f137 => ?_)
    refine J.ret ?_
    obtain rfl := Option.some.inj hm
    exact ret_ok (fn := Try.f34) rfl (.agg rfl inferInstance inferInstance .nil) ⟨_, rfl, ⟨_, _, _, rfl, Sls.mono f137⟩⟩
set_option maxHeartbeats 4000000 in
theorem torsionlaw06_SparseRepresents_fn {h : Heap} {x0 : R06Raw} {v0 : Value} (r0 : AggV R06RawR h v0 x0) {r : Bool} (hm : M.torsionlaw06_SparseRepresents x0 = some r) :
    Fn Try.prog 7 #[v0] h fun v h' => v = .bool r := by
  obtain ⟨_, rfl, p21, n22, c23, rfl, f24⟩ := r0
  refine Fn.intro (args := [_]) Try.func7 rfl rfl (Nat.le_of_ble_eq_true rfl) fun w => ?_
  unfold M.torsionlaw06_SparseRepresents at hm
  refine J.seq ?_
  refine J.region ?_
  first | refine o_bx (v := .agg ⟨[.int _ _, .int _ _, .slice _ _ _]⟩) rfl rfl (fun b25 => ?_) | refine o_bx rfl rfl (fun b25 => ?_)
  first | refine o_q (q_asv (v := .bool _) rfl) ?_ | refine o_q (q_as) ?_
  refine JL.nil ?_
  refine J.seq ?_
  obtain ⟨y31, e30, hm⟩ := bnd_some hm
  refine J.region ?_
  refine o_call (sanity_fn' e30) (fun v26 h27 s28 r29 => ?_)
  obtain rfl := (show _ = _ from r29)
  first | refine o_q (q_asv (v := .bool _) rfl) ?_ | refine o_q (q_as) ?_
  refine JL.nil ?_
  refine J.seq ?_
  obtain ⟨y37, e36, hm⟩ := bnd_some hm
  refine J.region ?_
  refine o_q (q_lda (vs := [_, _, _]) rfl inferInstance ⟨rfl, rfl, rfl, trivial⟩) ?_
  refine o_call (torsionref06_Made_fn ⟨_, rfl, ⟨_, _, _, rfl, Sls.mono f24⟩⟩ e36) (fun v32 h33 s34 r35 => ?_)
  obtain ⟨_, rfl, p38, n39, c40, rfl, f41⟩ := r35
  refine o_al (fun b42 => ?_)
  first | refine o_stc (vs := [.int _ _, .int _ _, .slice _ _ _]) (l' := [.int _ _, .int _ _, .slice _ _ _]) rfl rfl rfl rfl rfl inferInstance rfl rfl ?_ | refine o_stc (vs := [_, _, _]) (l' := [_, _, _]) rfl rfl rfl rfl rfl inferInstance rfl rfl ?_
  refine JL.nil ?_
  refine J.seq ?_
  obtain ⟨y48, e47, hm⟩ := bnd_some hm
  refine J.region ?_
  refine o_q (q_lda (vs := [_, _, _]) rfl inferInstance ⟨rfl, rfl, rfl, trivial⟩) ?_
  refine o_call (sparse_From_fn ⟨_, rfl, ⟨_, _, _, rfl, Sls.mono f41⟩⟩ e47) (fun v43 h44 s45 r46 => ?_)
  obtain ⟨_, rfl, p49, n50, c51, rfl, f52⟩ := r46
  refine o_al (fun b53 => ?_)
  first | refine o_stc (vs := [.int _ _, .int _ _, .slice _ _ _]) (l' := [.int _ _, .int _ _, .slice _ _ _]) rfl rfl rfl rfl rfl inferInstance rfl rfl ?_ | refine o_stc (vs := [_, _, _]) (l' := [_, _, _]) rfl rfl rfl rfl rfl inferInstance rfl rfl ?_
  refine JL.nil ?_
  refine J.seq ?_
  obtain ⟨y59, e58, hm⟩ := bnd_some hm
  refine J.region ?_
  refine o_q (q_lda (vs := [_, _, _]) rfl inferInstance ⟨rfl, rfl, rfl, trivial⟩) ?_
  refine o_call (torsionref06_Valid_fn ⟨_, rfl, ⟨_, _, _, rfl, Sls.mono f52⟩⟩ e58) (fun v54 h55 s56 r57 => ?_)
  obtain rfl := (show _ = _ from r57)
  first | refine o_q (q_asv (v := .bool _) rfl) ?_ | refine o_q (q_as) ?_
  refine JL.nil ?_
  refine J.seq ?_
  refine J.seq ?_
  refine J.joinK (α := Bool) (fun v61 h' L' => (M.torsionlaw06_SparseRepresents_j3 y31 y37 y48) v61 = some r ∧ Sp ([(b42, row 50 [.int .i64 y37.Rows, .int .i64 y37.Cols, .slice p38 n39 c40]), (b53, row 24 [.int .i64 y48.Rows, .int .i64 y48.Cols, .slice p49 n50 c51])]) L') [(3, .bool _), (4, .pointer _), (5, .pointer _)] ⟨rfl, rfl, rfl, trivial⟩ (fun v61 => [(31, .bool v61)]) ?_ ?_
  ·
    by_cases c159 : y59 = true
    ·
      replace hm := ite_T c159 hm
      by_cases c160 : y48.Rows = y37.Rows
      ·
        replace hm := ite_T c160 hm
        refine J.region ?_
        first | refine o_q (q_mvv (v := .bool _) rfl) ?_ | refine o_q (q_mv) ?_
        refine o_q (q_not rfl) ?_
        first | refine o_q (q_mvv (v := .bool _) rfl) ?_ | refine o_q (q_mv) ?_
        refine JL.guardT rfl rfl (congrArg Bool.not (show y59 = true from c159)) ?_
        refine o_q (q_fa rfl) ?_
        refine JL.guardT rfl rfl (congrArg Bool.not (show y59 = true from c159)) ?_
        refine o_q (q_ld rfl inferInstance rfl) ?_
        refine JL.guardT rfl rfl (congrArg Bool.not (show y59 = true from c159)) ?_
        refine o_q (q_fa rfl) ?_
        refine JL.guardT rfl rfl (congrArg Bool.not (show y59 = true from c159)) ?_
        refine o_q (q_ld rfl inferInstance rfl) ?_
        refine JL.guardT rfl rfl (congrArg Bool.not (show y59 = true from c159)) ?_
        refine o_q (q_neq rfl rfl) ?_
        first | refine o_q (q_pickFv (v := .bool _) rfl (congrArg Bool.not (show y59 = true from c159)) rfl) ?_ | refine o_q (q_pickF rfl (congrArg Bool.not (show y59 = true from c159))) ?_
        first | refine o_q (q_mvv (v := .bool _) rfl) ?_ | refine o_q (q_mv) ?_
        refine JL.guardT rfl rfl (decide_eq_false (fun z => z c160)) ?_
        refine o_q (q_fa rfl) ?_
        refine JL.guardT rfl rfl (decide_eq_false (fun z => z c160)) ?_
        refine o_q (q_ld rfl inferInstance rfl) ?_
        refine JL.guardT rfl rfl (decide_eq_false (fun z => z c160)) ?_
        refine o_q (q_fa rfl) ?_
        refine JL.guardT rfl rfl (decide_eq_false (fun z => z c160)) ?_
        refine o_q (q_ld rfl inferInstance rfl) ?_
        refine JL.guardT rfl rfl (decide_eq_false (fun z => z c160)) ?_
        refine o_q (q_neq rfl rfl) ?_
        first | refine o_q (q_pickFv (v := .bool _) rfl (decide_eq_false (fun z => z c160)) rfl) ?_ | refine o_q (q_pickF rfl (decide_eq_false (fun z => z c160))) ?_
        refine JL.nil ?_
        exact ⟨(decide (y48.Cols ≠ y37.Cols)), rfl, ⟨rfl, rfl, rfl, trivial⟩, ⟨rfl, trivial⟩, ⟨hm, inferInstance⟩, inferInstance⟩
      ·
        replace hm := ite_F c160 hm
        refine J.region ?_
        first | refine o_q (q_mvv (v := .bool _) rfl) ?_ | refine o_q (q_mv) ?_
        refine o_q (q_not rfl) ?_
        first | refine o_q (q_mvv (v := .bool _) rfl) ?_ | refine o_q (q_mv) ?_
        refine JL.guardT rfl rfl (congrArg Bool.not (show y59 = true from c159)) ?_
        refine o_q (q_fa rfl) ?_
        refine JL.guardT rfl rfl (congrArg Bool.not (show y59 = true from c159)) ?_
        refine o_q (q_ld rfl inferInstance rfl) ?_
        refine JL.guardT rfl rfl (congrArg Bool.not (show y59 = true from c159)) ?_
        refine o_q (q_fa rfl) ?_
        refine JL.guardT rfl rfl (congrArg Bool.not (show y59 = true from c159)) ?_
        refine o_q (q_ld rfl inferInstance rfl) ?_
        refine JL.guardT rfl rfl (congrArg Bool.not (show y59 = true from c159)) ?_
        refine o_q (q_neq rfl rfl) ?_
        first | refine o_q (q_pickFv (v := .bool _) rfl (congrArg Bool.not (show y59 = true from c159)) rfl) ?_ | refine o_q (q_pickF rfl (congrArg Bool.not (show y59 = true from c159))) ?_
        first | refine o_q (q_mvv (v := .bool _) rfl) ?_ | refine o_q (q_mv) ?_
        refine JL.guardF rfl rfl (decide_eq_true c160) rfl ?_
        refine JL.guardF rfl rfl (decide_eq_true c160) rfl ?_
        refine JL.guardF rfl rfl (decide_eq_true c160) rfl ?_
        refine JL.guardF rfl rfl (decide_eq_true c160) rfl ?_
        refine JL.guardF rfl rfl (decide_eq_true c160) rfl ?_
        first | refine o_q (q_pickTv (v := .bool _) rfl (decide_eq_true c160) rfl) ?_ | refine o_q (q_pickT rfl (decide_eq_true c160)) ?_
        refine JL.nil ?_
        exact ⟨true, rfl, ⟨rfl, rfl, rfl, trivial⟩, ⟨rfl, trivial⟩, ⟨hm, inferInstance⟩, inferInstance⟩
    ·
      replace hm := ite_F c159 hm
      refine J.region ?_
      first | refine o_q (q_mvv (v := .bool _) rfl) ?_ | refine o_q (q_mv) ?_
      refine o_q (q_not rfl) ?_
      first | refine o_q (q_mvv (v := .bool _) rfl) ?_ | refine o_q (q_mv) ?_
      refine JL.guardF rfl rfl (congrArg Bool.not (show y59 = false from (eq_false_of_ne_true c159))) rfl ?_
      refine JL.guardF rfl rfl (congrArg Bool.not (show y59 = false from (eq_false_of_ne_true c159))) rfl ?_
      refine JL.guardF rfl rfl (congrArg Bool.not (show y59 = false from (eq_false_of_ne_true c159))) rfl ?_
      refine JL.guardF rfl rfl (congrArg Bool.not (show y59 = false from (eq_false_of_ne_true c159))) rfl ?_
      refine JL.guardF rfl rfl (congrArg Bool.not (show y59 = false from (eq_false_of_ne_true c159))) rfl ?_
      first | refine o_q (q_pickTv (v := .bool _) rfl (congrArg Bool.not (show y59 = false from (eq_false_of_ne_true c159))) rfl) ?_ | refine o_q (q_pickT rfl (congrArg Bool.not (show y59 = false from (eq_false_of_ne_true c159)))) ?_
      first | refine o_q (q_mvv (v := .bool _) rfl) ?_ | refine o_q (q_mv) ?_
      refine JL.guardF rfl rfl rfl rfl ?_
      refine JL.guardF rfl rfl rfl rfl ?_
      refine JL.guardF rfl rfl rfl rfl ?_
      refine JL.guardF rfl rfl rfl rfl ?_
      refine JL.guardF rfl rfl rfl rfl ?_
      first | refine o_q (q_pickTv (v := .bool _) rfl rfl rfl) ?_ | refine o_q (q_pickT rfl rfl) ?_
      refine JL.nil ?_
      exact ⟨true, rfl, ⟨rfl, rfl, rfl, trivial⟩, ⟨rfl, trivial⟩, ⟨hm, inferInstance⟩, inferInstance⟩
  ·
    rintro v61 σq62 hq62 Lq62 sq62 ⟨hm, hspq62⟩
    refine J.sp hspq62 ?_
    unfold M.torsionlaw06_SparseRepresents_j3 at hm
    by_cases c63 : v61 = true
    ·
      replace hm := ite_T c63 hm
      refine J.condT rfl c63 ?_
      refine J.seq ?_
      refine J.region ?_
      first | refine o_q (q_asv (v := .bool _) rfl) ?_ | refine o_q (q_as) ?_
      refine JL.nil ?_
      refine J.ret ?_
      obtain rfl := Option.some.inj hm
      exact ret_ok (fn := Try.f7) rfl (.tmp rfl .nil) rfl
    ·
      replace hm := ite_F c63 hm
      refine J.condF rfl (eq_false_of_ne_true c63) ?_
      refine J.skip ?_
      refine J.seq ?_
      obtain ⟨y69, e68, hm⟩ := bnd_some hm
      refine J.region ?_
      refine o_q (q_lda (vs := [_, _, _]) rfl inferInstance ⟨rfl, rfl, rfl, trivial⟩) ?_
      refine o_call (sparse_To_fn ⟨_, rfl, ⟨_, _, _, rfl, Sls.mono f52⟩⟩ e68) (fun v64 h65 s66 r67 => ?_)
      obtain ⟨_, rfl, p70, n71, c72, rfl, f73⟩ := r67
      refine o_al (fun b74 => ?_)
      first | refine o_stc (vs := [.int _ _, .int _ _, .slice _ _ _]) (l' := [.int _ _, .int _ _, .slice _ _ _]) rfl rfl rfl rfl rfl inferInstance rfl rfl ?_ | refine o_stc (vs := [_, _, _]) (l' := [_, _, _]) rfl rfl rfl rfl rfl inferInstance rfl rfl ?_
      refine JL.nil ?_
      refine J.seq ?_
      refine J.seq ?_
      refine J.joinK (α := Bool) (fun v76 h' L' => (M.torsionlaw06_SparseRepresents_j2 y31 y37 y48 y69) v76 = some r ∧ Sp ([(b42, row 50 [.int .i64 y37.Rows, .int .i64 y37.Cols, .slice p38 n39 c40]), (b53, row 24 [.int .i64 y48.Rows, .int .i64 y48.Cols, .slice p49 n50 c51]), (b74, row 50 [.int .i64 y69.Rows, .int .i64 y69.Cols, .slice p70 n71 c72])]) L') [(3, .bool _), (4, .pointer _), (5, .pointer _), (7, .pointer _)] ⟨rfl, rfl, rfl, rfl, trivial⟩ (fun v76 => [(53, .bool v76)]) ?_ ?_
      ·
        by_cases c157 : y69.Rows = y37.Rows
        ·
          replace hm := ite_T c157 hm
          by_cases c158 : y69.Cols = y37.Cols
          ·
            replace hm := ite_T c158 hm
            refine J.region ?_
            refine o_q (q_fa rfl) ?_
            refine o_q (q_ld rfl inferInstance rfl) ?_
            refine o_q (q_fa rfl) ?_
            refine o_q (q_ld rfl inferInstance rfl) ?_
            refine o_q (q_neq rfl rfl) ?_
            first | refine o_q (q_mvv (v := .bool _) rfl) ?_ | refine o_q (q_mv) ?_
            refine JL.guardT rfl rfl (decide_eq_false (fun z => z c157)) ?_
            refine o_q (q_fa rfl) ?_
            refine JL.guardT rfl rfl (decide_eq_false (fun z => z c157)) ?_
            refine o_q (q_ld rfl inferInstance rfl) ?_
            refine JL.guardT rfl rfl (decide_eq_false (fun z => z c157)) ?_
            refine o_q (q_fa rfl) ?_
            refine JL.guardT rfl rfl (decide_eq_false (fun z => z c157)) ?_
            refine o_q (q_ld rfl inferInstance rfl) ?_
            refine JL.guardT rfl rfl (decide_eq_false (fun z => z c157)) ?_
            refine o_q (q_neq rfl rfl) ?_
            first | refine o_q (q_pickFv (v := .bool _) rfl (decide_eq_false (fun z => z c157)) rfl) ?_ | refine o_q (q_pickF rfl (decide_eq_false (fun z => z c157))) ?_
            first | refine o_q (q_mvv (v := .bool _) rfl) ?_ | refine o_q (q_mv) ?_
            refine JL.guardT rfl rfl (decide_eq_false (fun z => z c158)) ?_
            refine o_q (q_fa rfl) ?_
            refine JL.guardT rfl rfl (decide_eq_false (fun z => z c158)) ?_
            refine o_q (q_ld rfl inferInstance rfl) ?_
            refine JL.guardT rfl rfl (decide_eq_false (fun z => z c158)) ?_
            refine o_q (q_lenE (k := y69.A.length) rfl (Sls.len f73)) ?_
            refine JL.guardT rfl rfl (decide_eq_false (fun z => z c158)) ?_
            refine o_q (q_fa rfl) ?_
            refine JL.guardT rfl rfl (decide_eq_false (fun z => z c158)) ?_
            refine o_q (q_ld rfl inferInstance rfl) ?_
            refine JL.guardT rfl rfl (decide_eq_false (fun z => z c158)) ?_
            refine o_q (q_neq rfl rfl) ?_
            first | refine o_q (q_pickFv (v := .bool _) rfl (decide_eq_false (fun z => z c158)) rfl) ?_ | refine o_q (q_pickF rfl (decide_eq_false (fun z => z c158))) ?_
            refine JL.nil ?_
            exact ⟨(decide ((y69.A.length : Int) ≠ y37.Rows)), rfl, ⟨rfl, rfl, rfl, rfl, trivial⟩, ⟨rfl, trivial⟩, ⟨hm, inferInstance⟩, inferInstance⟩
          ·
            replace hm := ite_F c158 hm
            refine J.region ?_
            refine o_q (q_fa rfl) ?_
            refine o_q (q_ld rfl inferInstance rfl) ?_
            refine o_q (q_fa rfl) ?_
            refine o_q (q_ld rfl inferInstance rfl) ?_
            refine o_q (q_neq rfl rfl) ?_
            first | refine o_q (q_mvv (v := .bool _) rfl) ?_ | refine o_q (q_mv) ?_
            refine JL.guardT rfl rfl (decide_eq_false (fun z => z c157)) ?_
            refine o_q (q_fa rfl) ?_
            refine JL.guardT rfl rfl (decide_eq_false (fun z => z c157)) ?_
            refine o_q (q_ld rfl inferInstance rfl) ?_
            refine JL.guardT rfl rfl (decide_eq_false (fun z => z c157)) ?_
            refine o_q (q_fa rfl) ?_
            refine JL.guardT rfl rfl (decide_eq_false (fun z => z c157)) ?_
            refine o_q (q_ld rfl inferInstance rfl) ?_
            refine JL.guardT rfl rfl (decide_eq_false (fun z => z c157)) ?_
            refine o_q (q_neq rfl rfl) ?_
            first | refine o_q (q_pickFv (v := .bool _) rfl (decide_eq_false (fun z => z c157)) rfl) ?_ | refine o_q (q_pickF rfl (decide_eq_false (fun z => z c157))) ?_
            first | refine o_q (q_mvv (v := .bool _) rfl) ?_ | refine o_q (q_mv) ?_
            refine JL.guardF rfl rfl (decide_eq_true c158) rfl ?_
            refine JL.guardF rfl rfl (decide_eq_true c158) rfl ?_
            refine JL.guardF rfl rfl (decide_eq_true c158) rfl ?_
            refine JL.guardF rfl rfl (decide_eq_true c158) rfl ?_
            refine JL.guardF rfl rfl (decide_eq_true c158) rfl ?_
            refine JL.guardF rfl rfl (decide_eq_true c158) rfl ?_
            first | refine o_q (q_pickTv (v := .bool _) rfl (decide_eq_true c158) rfl) ?_ | refine o_q (q_pickT rfl (decide_eq_true c158)) ?_
            refine JL.nil ?_
            exact ⟨true, rfl, ⟨rfl, rfl, rfl, rfl, trivial⟩, ⟨rfl, trivial⟩, ⟨hm, inferInstance⟩, inferInstance⟩
        ·
          replace hm := ite_F c157 hm
          refine J.region ?_
          refine o_q (q_fa rfl) ?_
          refine o_q (q_ld rfl inferInstance rfl) ?_
          refine o_q (q_fa rfl) ?_
          refine o_q (q_ld rfl inferInstance rfl) ?_
          refine o_q (q_neq rfl rfl) ?_
          first | refine o_q (q_mvv (v := .bool _) rfl) ?_ | refine o_q (q_mv) ?_
          refine JL.guardF rfl rfl (decide_eq_true c157) rfl ?_
          refine JL.guardF rfl rfl (decide_eq_true c157) rfl ?_
          refine JL.guardF rfl rfl (decide_eq_true c157) rfl ?_
          refine JL.guardF rfl rfl (decide_eq_true c157) rfl ?_
          refine JL.guardF rfl rfl (decide_eq_true c157) rfl ?_
          first | refine o_q (q_pickTv (v := .bool _) rfl (decide_eq_true c157) rfl) ?_ | refine o_q (q_pickT rfl (decide_eq_true c157)) ?_
          first | refine o_q (q_mvv (v := .bool _) rfl) ?_ | refine o_q (q_mv) ?_
          refine JL.guardF rfl rfl rfl rfl ?_
          refine JL.guardF rfl rfl rfl rfl ?_
          refine JL.guardF rfl rfl rfl rfl ?_
          refine JL.guardF rfl rfl rfl rfl ?_
          refine JL.guardF rfl rfl rfl rfl ?_
          refine JL.guardF rfl rfl rfl rfl ?_
          first | refine o_q (q_pickTv (v := .bool _) rfl rfl rfl) ?_ | refine o_q (q_pickT rfl rfl) ?_
          refine JL.nil ?_
          exact ⟨true, rfl, ⟨rfl, rfl, rfl, rfl, trivial⟩, ⟨rfl, trivial⟩, ⟨hm, inferInstance⟩, inferInstance⟩
      ·
        rintro v76 σq77 hq77 Lq77 sq77 ⟨hm, hspq77⟩
        refine J.sp hspq77 ?_
        unfold M.torsionlaw06_SparseRepresents_j2 at hm
        by_cases c78 : v76 = true
        ·
          replace hm := ite_T c78 hm
          refine J.condT rfl c78 ?_
          refine J.seq ?_
          refine J.region ?_
          first | refine o_q (q_asv (v := .bool _) rfl) ?_ | refine o_q (q_as) ?_
          refine JL.nil ?_
          refine J.ret ?_
          obtain rfl := Option.some.inj hm
          exact ret_ok (fn := Try.f7) rfl (.tmp rfl .nil) rfl
        ·
          replace hm := ite_F c78 hm
          refine J.condF rfl (eq_false_of_ne_true c78) ?_
          refine J.skip ?_
          refine J.seq ?_
          refine J.seq ?_
          refine J.region ?_
          first | refine o_q (q_asv (v := .int _ _) rfl) ?_ | refine o_q (q_as) ?_
          refine JL.nil ?_
          refine J.block ?_
          obtain ⟨k81, hm⟩ := rngN_some hm
          refine J.loopK (α := Int) (fun i80 h' L' => 0 ≤ i80 ∧ forN (M.torsionlaw06_SparseRepresents_b1 y37 y48 y69) (M.torsionlaw06_SparseRepresents_k1 y31) y37.Rows i80 () = some r ∧ Sp ([(b42, row 50 [.int .i64 y37.Rows, .int .i64 y37.Cols, .slice p38 n39 c40]), (b53, row 24 [.int .i64 y48.Rows, .int .i64 y48.Cols, .slice p49 n50 c51]), (b74, row 50 [.int .i64 y69.Rows, .int .i64 y69.Cols, .slice p70 n71 c72])]) L') [(3, .bool _), (4, .pointer _), (5, .pointer _), (7, .pointer _)] ⟨rfl, rfl, rfl, rfl, trivial⟩ (fun i80 => [(8, .int .i64 i80)]) (fun i80 => (y37.Rows - i80).toNat) 0 ⟨Int.le_refl _, hm, inferInstance⟩ ⟨rfl, trivial⟩ ?_
          rintro i80 σq82 hq82 Lq82 sq82 ⟨hle83, hm, hspq82⟩
          refine J.sp hspq82 ?_
          refine J.seq ?_
          refine J.seq ?_
          refine J.region ?_
          first | refine o_q (q_mvv (v := .int _ _) rfl) ?_ | refine o_q (q_mv) ?_
          refine o_q (q_fa rfl) ?_
          refine o_q (q_ld rfl inferInstance rfl) ?_
          refine o_q (q_lss rfl rfl) ?_
          refine JL.nil ?_
          by_cases c86 : i80 < y37.Rows
          ·
            obtain ⟨o84, hm, hk85⟩ := forN_lt c86 hm
            unfold M.torsionlaw06_SparseRepresents_b1 at hm
            refine J.condT rfl (decide_eq_true c86) ?_
            have k87 : -9223372036854775808 ≤ i80 + 1 ∧ i80 + 1 ≤ 9223372036854775807 := by omega
            refine J.skip ?_
            refine J.seq ?_
            refine J.block ?_
            refine J.seq ?_
            obtain ⟨i89, x88, hi90, hl91, hx92, hm⟩ := nth_some hm
            obtain ⟨b93, o94, rfl⟩ := Sls.op f73 hl91
            obtain ⟨us95, hc96, hR97⟩ := Sls.at f73 hx92
            obtain ⟨p98, n99, c100, rfl, f101⟩ := hR97
            obtain ⟨i103, x102, hi104, hl105, hx106, hm⟩ := nth_some hm
            obtain ⟨b107, o108, rfl⟩ := Sls.op f41 hl105
            obtain ⟨us109, hc110, hR111⟩ := Sls.at f41 hx106
            obtain ⟨p112, n113, c114, rfl, f115⟩ := hR111
            obtain ⟨y121, e120, hm⟩ := bnd_some hm
            by_cases c122 : y121 = true
            ·
              replace hm := ite_T c122 hm
              obtain ⟨i124, x123, hi125, hl126, hx127, hm⟩ := nth_some hm
              obtain ⟨b128, o129, rfl⟩ := Sls.op f52 hl126
              obtain ⟨us130, hc131, hR132⟩ := Sls.at f52 hx127
              obtain ⟨p133, n134, c135, rfl, f136⟩ := hR132
              obtain ⟨y145, e144, hm⟩ := bnd_some hm
              obtain ⟨y155, e154, hm⟩ := bnd_some hm
              refine J.drawB [b74, b42, b53] [] ?_
              refine JD.calc 0 (by kernel_rfl) rfl trivial ss_subB (q_fa rfl) ?_
              refine JD.loadB 1 (by kernel_rfl) rfl trivial (q_ld rfl inferInstance rfl) ?_
              first | refine JD.calc 2 (by kernel_rfl) rfl trivial ss_subB (q_mvv (v := .int _ _) rfl) ?_ | refine JD.calc 2 (by kernel_rfl) rfl trivial ss_subB (q_mv) ?_
              refine JD.calc 3 (by kernel_rfl) rfl trivial ss_subB (q_ian rfl rfl hi90 (by first | exact hl91 | (rw [Sls.len f73]; exact hl91))) ?_
              refine JD.loadB 4 (by kernel_rfl) rfl trivial (q_ldf rfl hc96) ?_
              refine JD.calc 5 (by kernel_rfl) rfl trivial ss_subB (q_fa rfl) ?_
              refine JD.loadB 6 (by kernel_rfl) rfl trivial (q_ld rfl inferInstance rfl) ?_
              first | refine JD.calc 7 (by kernel_rfl) rfl trivial ss_subB (q_mvv (v := .int _ _) rfl) ?_ | refine JD.calc 7 (by kernel_rfl) rfl trivial ss_subB (q_mv) ?_
              refine JD.calc 8 (by kernel_rfl) rfl trivial ss_subB (q_ian rfl rfl hi104 (by first | exact hl105 | (rw [Sls.len f41]; exact hl105))) ?_
              refine JD.loadB 9 (by kernel_rfl) rfl trivial (q_ldf rfl hc110) ?_
              refine JD.one 10 (by kernel_rfl) ?_
              refine JX.effB rfl rfl trivial ?_
              refine o_call (torsionref06_SameVec_fn (Sls.mono f101) (Sls.mono f115) e120) (fun v116 h117 s118 r119 => ?_)
              obtain rfl := (show _ = _ from r119)
              refine JL.nil ⟨rfl, inferInstance, inferInstance, ?_⟩
              refine JD.calc 11 (by kernel_rfl) rfl trivial ss_subB (q_not rfl) ?_
              first | refine JD.calc 12 (by kernel_rfl) rfl trivial ss_subB (q_mvv (v := .bool _) rfl) ?_ | refine JD.calc 12 (by kernel_rfl) rfl trivial ss_subB (q_mv) ?_
              refine JD.calc 13 (by kernel_rfl) rfl ⟨_, rfl, (congrArg Value.bool (congrArg Bool.not (show y121 = true from c122)))⟩ ss_subB (q_fa rfl) ?_
              refine JD.loadB 14 (by kernel_rfl) rfl ⟨_, rfl, (congrArg Value.bool (congrArg Bool.not (show y121 = true from c122)))⟩ (q_ld rfl inferInstance rfl) ?_
              first | refine JD.calc 15 (by kernel_rfl) rfl ⟨_, rfl, (congrArg Value.bool (congrArg Bool.not (show y121 = true from c122)))⟩ ss_subB (q_mvv (v := .int _ _) rfl) ?_ | refine JD.calc 15 (by kernel_rfl) rfl ⟨_, rfl, (congrArg Value.bool (congrArg Bool.not (show y121 = true from c122)))⟩ ss_subB (q_mv) ?_
              refine JD.calc 16 (by kernel_rfl) rfl ⟨_, rfl, (congrArg Value.bool (congrArg Bool.not (show y121 = true from c122)))⟩ ss_subB (q_ian rfl rfl hi125 (by first | exact hl126 | (rw [Sls.len f52]; exact hl126))) ?_
              refine JD.loadB 17 (by kernel_rfl) rfl ⟨_, rfl, (congrArg Value.bool (congrArg Bool.not (show y121 = true from c122)))⟩ (q_ldf rfl hc131) ?_
              refine JD.calc 18 (by kernel_rfl) rfl ⟨_, rfl, (congrArg Value.bool (congrArg Bool.not (show y121 = true from c122)))⟩ ss_subB (q_fa rfl) ?_
              refine JD.loadB 19 (by kernel_rfl) rfl ⟨_, rfl, (congrArg Value.bool (congrArg Bool.not (show y121 = true from c122)))⟩ (q_ld rfl inferInstance rfl) ?_
              first | refine JD.calc 20 (by kernel_rfl) rfl ⟨_, rfl, (congrArg Value.bool (congrArg Bool.not (show y121 = true from c122)))⟩ ss_subB (q_mvv (v := .int _ _) rfl) ?_ | refine JD.calc 20 (by kernel_rfl) rfl ⟨_, rfl, (congrArg Value.bool (congrArg Bool.not (show y121 = true from c122)))⟩ ss_subB (q_mv) ?_
              refine JD.calc 21 (by kernel_rfl) rfl ⟨_, rfl, (congrArg Value.bool (congrArg Bool.not (show y121 = true from c122)))⟩ ss_subB (q_ian rfl rfl hi104 (by first | exact hl105 | (rw [Sls.len f41]; exact hl105))) ?_
              refine JD.loadB 22 (by kernel_rfl) rfl ⟨_, rfl, (congrArg Value.bool (congrArg Bool.not (show y121 = true from c122)))⟩ (q_ldf rfl hc110) ?_
              refine JD.one 23 (by kernel_rfl) ?_
              refine JX.effB rfl rfl ⟨_, rfl, (congrArg Value.bool (congrArg Bool.not (show y121 = true from c122)))⟩ ?_
              refine o_call (torsionref06_Row_fn (Sls.mono f115) e144) (fun v140 h141 s142 r143 => ?_)
              obtain ⟨p146, n147, c148, rfl, f149⟩ := Sls.op3 r143
              refine JL.nil ⟨rfl, inferInstance, inferInstance, ?_⟩
              refine JD.one 24 (by kernel_rfl) ?_
              refine JX.effB rfl rfl ⟨_, rfl, (congrArg Value.bool (congrArg Bool.not (show y121 = true from c122)))⟩ ?_
              refine o_call (torsionref06_SameRow_fn (Sls.mono f136) (Sls.mono f149) e154) (fun v150 h151 s152 r153 => ?_)
              obtain rfl := (show _ = _ from r153)
              refine JL.nil ⟨rfl, inferInstance, inferInstance, ?_⟩
              refine JD.calc 25 (by kernel_rfl) rfl ⟨_, rfl, (congrArg Value.bool (congrArg Bool.not (show y121 = true from c122)))⟩ ss_subB (q_not rfl) ?_
              first | refine JD.calc 26 (by kernel_rfl) rfl trivial ss_subB (q_pickFv (v := .bool _) rfl (congrArg Bool.not (show y121 = true from c122)) rfl) ?_ | refine JD.calc 26 (by kernel_rfl) rfl trivial ss_subB (q_pickF rfl (congrArg Bool.not (show y121 = true from c122))) ?_
              refine JD.done (by kernel_rfl) ?_ _
              --
              by_cases c156 : y155 = true
              ·
                replace hm := ite_T c156 hm
                refine J.condF rfl (congrArg Bool.not (show y155 = true from c156)) ?_
                refine J.skip ?_
                refine J.region ?_
                first | refine o_q (q_mvv (v := .int _ _) rfl) ?_ | refine o_q (q_mv) ?_
                refine o_q (q_add rfl rfl (wi64 k87)) ?_
                first | refine o_q (q_asv (v := .int _ _) rfl) ?_ | refine o_q (q_as) ?_
                refine JL.nil ?_
                replace hm := inl_onward hm hk85
                exact ⟨(i80 + 1), rfl, ⟨rfl, rfl, rfl, rfl, trivial⟩, ⟨rfl, trivial⟩, ⟨Int.le_trans hle83 (Int.le_of_lt (Int.lt_succ _)), hm, inferInstance⟩, (muN c86), inferInstance⟩
              ·
                replace hm := ite_F c156 hm
                refine J.condT rfl (congrArg Bool.not (show y155 = false from (eq_false_of_ne_true c156))) ?_
                refine J.seq ?_
                refine J.region ?_
                first | refine o_q (q_asv (v := .bool _) rfl) ?_ | refine o_q (q_as) ?_
                refine JL.nil ?_
                replace hm := inr_onward hm hk85
                refine J.ret ?_
                obtain rfl := Option.some.inj hm
                exact ret_ok (fn := Try.f7) rfl (.tmp rfl .nil) rfl
            ·
              replace hm := ite_F c122 hm
              refine J.drawB [b74, b42] [] ?_
              refine JD.calc 0 (by kernel_rfl) rfl trivial ss_subB (q_fa rfl) ?_
              refine JD.loadB 1 (by kernel_rfl) rfl trivial (q_ld rfl inferInstance rfl) ?_
              first | refine JD.calc 2 (by kernel_rfl) rfl trivial ss_subB (q_mvv (v := .int _ _) rfl) ?_ | refine JD.calc 2 (by kernel_rfl) rfl trivial ss_subB (q_mv) ?_
              refine JD.calc 3 (by kernel_rfl) rfl trivial ss_subB (q_ian rfl rfl hi90 (by first | exact hl91 | (rw [Sls.len f73]; exact hl91))) ?_
              refine JD.loadB 4 (by kernel_rfl) rfl trivial (q_ldf rfl hc96) ?_
              refine JD.calc 5 (by kernel_rfl) rfl trivial ss_subB (q_fa rfl) ?_
              refine JD.loadB 6 (by kernel_rfl) rfl trivial (q_ld rfl inferInstance rfl) ?_
              first | refine JD.calc 7 (by kernel_rfl) rfl trivial ss_subB (q_mvv (v := .int _ _) rfl) ?_ | refine JD.calc 7 (by kernel_rfl) rfl trivial ss_subB (q_mv) ?_
              refine JD.calc 8 (by kernel_rfl) rfl trivial ss_subB (q_ian rfl rfl hi104 (by first | exact hl105 | (rw [Sls.len f41]; exact hl105))) ?_
              refine JD.loadB 9 (by kernel_rfl) rfl trivial (q_ldf rfl hc110) ?_
              refine JD.one 10 (by kernel_rfl) ?_
              refine JX.effB rfl rfl trivial ?_
              refine o_call (torsionref06_SameVec_fn (Sls.mono f101) (Sls.mono f115) e120) (fun v116 h117 s118 r119 => ?_)
              obtain rfl := (show _ = _ from r119)
              refine JL.nil ⟨rfl, inferInstance, inferInstance, ?_⟩
              refine JD.calc 11 (by kernel_rfl) rfl trivial ss_subB (q_not rfl) ?_
              first | refine JD.calc 12 (by kernel_rfl) rfl trivial ss_subB (q_mvv (v := .bool _) rfl) ?_ | refine JD.calc 12 (by kernel_rfl) rfl trivial ss_subB (q_mv) ?_
              refine JD.pass 13 (by kernel_rfl) rfl rfl (congrArg Value.bool (congrArg Bool.not (show y121 = false from (eq_false_of_ne_true c122)))) ss_subB ?_
              refine JD.pass 14 (by kernel_rfl) rfl rfl (congrArg Value.bool (congrArg Bool.not (show y121 = false from (eq_false_of_ne_true c122)))) ss_subB ?_
              refine JD.pass 15 (by kernel_rfl) rfl rfl (congrArg Value.bool (congrArg Bool.not (show y121 = false from (eq_false_of_ne_true c122)))) ss_subB ?_
              refine JD.pass 16 (by kernel_rfl) rfl rfl (congrArg Value.bool (congrArg Bool.not (show y121 = false from (eq_false_of_ne_true c122)))) ss_subB ?_
              refine JD.pass 17 (by kernel_rfl) rfl rfl (congrArg Value.bool (congrArg Bool.not (show y121 = false from (eq_false_of_ne_true c122)))) ss_subB ?_
              refine JD.pass 18 (by kernel_rfl) rfl rfl (congrArg Value.bool (congrArg Bool.not (show y121 = false from (eq_false_of_ne_true c122)))) ss_subB ?_
              refine JD.pass 19 (by kernel_rfl) rfl rfl (congrArg Value.bool (congrArg Bool.not (show y121 = false from (eq_false_of_ne_true c122)))) ss_subB ?_
              refine JD.pass 20 (by kernel_rfl) rfl rfl (congrArg Value.bool (congrArg Bool.not (show y121 = false from (eq_false_of_ne_true c122)))) ss_subB ?_
              refine JD.pass 21 (by kernel_rfl) rfl rfl (congrArg Value.bool (congrArg Bool.not (show y121 = false from (eq_false_of_ne_true c122)))) ss_subB ?_
              refine JD.pass 22 (by kernel_rfl) rfl rfl (congrArg Value.bool (congrArg Bool.not (show y121 = false from (eq_false_of_ne_true c122)))) ss_subB ?_
              refine JD.pass 23 (by kernel_rfl) rfl rfl (congrArg Value.bool (congrArg Bool.not (show y121 = false from (eq_false_of_ne_true c122)))) ss_subB ?_
              refine JD.pass 24 (by kernel_rfl) rfl rfl (congrArg Value.bool (congrArg Bool.not (show y121 = false from (eq_false_of_ne_true c122)))) ss_subB ?_
              refine JD.pass 25 (by kernel_rfl) rfl rfl (congrArg Value.bool (congrArg Bool.not (show y121 = false from (eq_false_of_ne_true c122)))) ss_subB ?_
              first | refine JD.calc 26 (by kernel_rfl) rfl trivial ss_subB (q_pickTv (v := .bool _) rfl (congrArg Bool.not (show y121 = false from (eq_false_of_ne_true c122))) rfl) ?_ | refine JD.calc 26 (by kernel_rfl) rfl trivial ss_subB (q_pickT rfl (congrArg Bool.not (show y121 = false from (eq_false_of_ne_true c122)))) ?_
              refine JD.done (by kernel_rfl) ?_ _
              --
              refine J.condT rfl rfl ?_
              refine J.seq ?_
              refine J.region ?_
              first | refine o_q (q_asv (v := .bool _) rfl) ?_ | refine o_q (q_as) ?_
              refine JL.nil ?_
              replace hm := inr_onward hm hk85
              refine J.ret ?_
              obtain rfl := Option.some.inj hm
              exact ret_ok (fn := Try.f7) rfl (.tmp rfl .nil) rfl
          ·
            replace hm := forN_ge c86 hm
            unfold M.torsionlaw06_SparseRepresents_k1 at hm
            refine J.condF rfl (decide_eq_false c86) ?_
            refine J.exit ?_
            refine J.seq ?_
            refine J.region ?_
            first | refine o_q (q_mvv (v := .bool _) rfl) ?_ | refine o_q (q_mv) ?_
            first | refine o_q (q_asv (v := .bool _) rfl) ?_ | refine o_q (q_as) ?_
            refine JL.nil ?_
            refine J.ret ?_
            obtain rfl := Option.some.inj hm
            exact ret_ok (fn := Try.f7) rfl (.tmp rfl .nil) rfl
end Go.Z
end
