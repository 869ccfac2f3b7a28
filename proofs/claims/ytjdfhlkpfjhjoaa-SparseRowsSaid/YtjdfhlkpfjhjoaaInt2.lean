/- The functions of package integer and of its reference, walked: products, signs, validity, comparison. -/
import Derived.Test.YtjdfhlkpfjhjoaaInt
set_option linter.unusedSimpArgs false
set_option linter.unusedVariables false
namespace Go.Z
open Go Go.RowKit Go.Proofs
set_option maxHeartbeats 4000000 in
theorem mulr_fn {h : Heap} {va vb : Value} {x y : Int} (ha : IntAt h va x) (hb : IntAt h vb y) (fa : Fit x) (fb : Fit y) :
    Fn Try.prog 54 #[va, vb] h fun r h' => IntAt h' r (x * y) := by
  obtain ⟨pa, ca, rfl, hca, ha⟩ := ha.out
  obtain ⟨pb, cb, rfl, hcb, hb⟩ := hb.out
  have la := fa
  have lb := fb
  unfold Fit at la lb
  refine Fn.intro (args := [_, _]) Try.func54 rfl rfl (Nat.le_of_ble_eq_true rfl) fun w => ?_
  refine J.seq ?_
  refine J.region ?_
  first | refine o_bx (v := .agg _) rfl rfl (fun b2 => ?_) | refine o_bx rfl rfl (fun b2 => ?_)
  first | refine o_bx (v := .agg _) rfl rfl (fun b3 => ?_) | refine o_bx rfl rfl (fun b3 => ?_)
  refine o_al (fun b4 => ?_)
  refine JL.nil ?_
  refine J.seq ?_
  refine J.region ?_
  refine o_q (q_fa rfl) ?_
  refine o_q (q_ld rfl inferInstance rfl) ?_
  refine o_q (q_len rfl) ?_
  refine o_q (q_fa rfl) ?_
  refine o_q (q_ld rfl inferInstance rfl) ?_
  refine o_q (q_len rfl) ?_
  refine o_q (q_add rfl rfl (wi64 (by omega))) ?_
  refine o_q (q_add rfl rfl (wi64 (by omega))) ?_
  refine o_mk (n := (limbs x.natAbs).length + (limbs y.natAbs).length + 1) (m := (limbs x.natAbs).length + (limbs y.natAbs).length + 1) rfl rfl (by omega) (by omega) (Nat.le_refl _) (by omega) (by omega) (fun b17 => ?_)
  first | refine o_q (q_asv (v := .slice _ _ _) rfl) ?_ | refine o_q (q_as) ?_
  refine JL.nil ?_
  -- cut: kept [2, 3, 4, 5], said []
  first | refine J.cutK (α := List Nat) (fun out h' L' => out.length = (limbs x.natAbs).length + (limbs y.natAbs).length + 1 ∧ Bd out ∧ val out = val (limbs x.natAbs) * val (limbs y.natAbs) ∧ [(b17, row 78 (u32s out)), (b4, row 37 [.bool false, .slice none 0 0]), (b3, row 37 [.bool (decide (y < 0)), .slice pb (limbs y.natAbs).length cb]), (b2, row 37 [.bool (decide (x < 0)), .slice pa (limbs x.natAbs).length ca])] = L') [(2, .pointer _), (3, .pointer _), (4, .pointer _), (5, .slice _ _ _)] ⟨rfl, rfl, rfl, rfl, trivial⟩ (fun _ => []) ?_ ?_ | refine J.cutK (α := List Nat) (fun out h' L' => out.length = (limbs x.natAbs).length + (limbs y.natAbs).length + 1 ∧ Bd out ∧ val out = val (limbs x.natAbs) * val (limbs y.natAbs) ∧ [(b17, row 78 (u32s out)), (b4, row 37 [.bool false, .slice none 0 0]), (b3, row 37 [.bool (decide (y < 0)), .slice pb (limbs y.natAbs).length cb]), (b2, row 37 [.bool (decide (x < 0)), .slice pa (limbs x.natAbs).length ca])] = L') [(2, _), (3, _), (4, _), (5, _)] ⟨rfl, rfl, rfl, rfl, trivial⟩ (fun _ => []) ?_ ?_
  ·
    refine J.seq ?_
    refine J.region ?_
    refine o_q (q_as) ?_
    refine JL.nil ?_
    refine J.block ?_
    -- loop 0: kept [2, 3, 4, 5], said [6]
    first | refine J.loopK (α := Nat × List Nat) (fun ⟨i, out⟩ h' L' => i ≤ (limbs x.natAbs).length ∧ out.length = (limbs x.natAbs).length + (limbs y.natAbs).length + 1 ∧ Bd out ∧ val out = val ((limbs x.natAbs).take i) * val (limbs y.natAbs) ∧ [(b17, row 78 (u32s out)), (b4, row 37 [.bool false, .slice none 0 0]), (b3, row 37 [.bool (decide (y < 0)), .slice pb (limbs y.natAbs).length cb]), (b2, row 37 [.bool (decide (x < 0)), .slice pa (limbs x.natAbs).length ca])] = L') [(2, .pointer _), (3, .pointer _), (4, .pointer _), (5, .slice _ _ _)] ⟨rfl, rfl, rfl, rfl, trivial⟩ (fun ⟨i, out⟩ => [(6, .int .i64 (i : Int))]) (fun ⟨i, out⟩ => (limbs x.natAbs).length - i) ((0, List.replicate ((limbs x.natAbs).length + (limbs y.natAbs).length + 1) 0)) ⟨by omega, by simp, Bd.rep0 _, by simp [val_rep0, val], by rw [flat1]⟩ ⟨rfl, trivial⟩ ?_ | refine J.loopK (α := Nat × List Nat) (fun ⟨i, out⟩ h' L' => i ≤ (limbs x.natAbs).length ∧ out.length = (limbs x.natAbs).length + (limbs y.natAbs).length + 1 ∧ Bd out ∧ val out = val ((limbs x.natAbs).take i) * val (limbs y.natAbs) ∧ [(b17, row 78 (u32s out)), (b4, row 37 [.bool false, .slice none 0 0]), (b3, row 37 [.bool (decide (y < 0)), .slice pb (limbs y.natAbs).length cb]), (b2, row 37 [.bool (decide (x < 0)), .slice pa (limbs x.natAbs).length ca])] = L') [(2, _), (3, _), (4, _), (5, _)] ⟨rfl, rfl, rfl, rfl, trivial⟩ (fun ⟨i, out⟩ => [(6, .int .i64 (i : Int))]) (fun ⟨i, out⟩ => (limbs x.natAbs).length - i) ((0, List.replicate ((limbs x.natAbs).length + (limbs y.natAbs).length + 1) 0)) ⟨by omega, by simp, Bd.rep0 _, by simp [val_rep0, val], by rw [flat1]⟩ ⟨rfl, trivial⟩ ?_
    rintro ⟨i, out⟩ σ h1 L1 s1 ⟨hi, hol, hob, hov, rfl⟩
    refine J.seq ?_
    refine J.seq ?_
    refine J.region ?_
    first | refine o_q (q_mvv (v := .int _ _) rfl) ?_ | refine o_q (q_mv) ?_
    refine o_q (q_fa rfl) ?_
    refine o_q (q_ld rfl inferInstance rfl) ?_
    refine o_q (q_len rfl) ?_
    refine o_q (q_lss rfl rfl) ?_
    refine JL.nil ?_
    refine J.condD rfl (fun c0 => ?_) (fun c0 => ?_)
    ·
      have c0' : i < (limbs x.natAbs).length := by omega
      refine J.skip ?_
      -- cut: kept [2, 3, 4, 5, 6], said []
      first | refine J.cutK (α := List Nat) (fun out h' L' => out.length = (limbs x.natAbs).length + (limbs y.natAbs).length + 1 ∧ Bd out ∧ val out = val ((limbs x.natAbs).take (i + 1)) * val (limbs y.natAbs) ∧ [(b17, row 78 (u32s out)), (b4, row 37 [.bool false, .slice none 0 0]), (b3, row 37 [.bool (decide (y < 0)), .slice pb (limbs y.natAbs).length cb]), (b2, row 37 [.bool (decide (x < 0)), .slice pa (limbs x.natAbs).length ca])] = L') [(2, .pointer _), (3, .pointer _), (4, .pointer _), (5, .slice _ _ _), (6, .int _ _)] ⟨rfl, rfl, rfl, rfl, rfl, trivial⟩ (fun _ => []) ?_ ?_ | refine J.cutK (α := List Nat) (fun out h' L' => out.length = (limbs x.natAbs).length + (limbs y.natAbs).length + 1 ∧ Bd out ∧ val out = val ((limbs x.natAbs).take (i + 1)) * val (limbs y.natAbs) ∧ [(b17, row 78 (u32s out)), (b4, row 37 [.bool false, .slice none 0 0]), (b3, row 37 [.bool (decide (y < 0)), .slice pb (limbs y.natAbs).length cb]), (b2, row 37 [.bool (decide (x < 0)), .slice pa (limbs x.natAbs).length ca])] = L') [(2, _), (3, _), (4, _), (5, _), (6, _)] ⟨rfl, rfl, rfl, rfl, rfl, trivial⟩ (fun _ => []) ?_ ?_
      ·
        refine J.block ?_
        refine J.seq ?_
        refine J.region ?_
        refine o_q (q_as) ?_
        refine JL.nil ?_
        refine J.seq ?_
        refine J.region ?_
        refine o_q (q_as) ?_
        refine JL.nil ?_
        refine J.block ?_
        -- loop 1: kept [2, 3, 4, 5, 6], said [7, 8]
        first | refine J.loopK (α := Nat × Nat × List Nat) (fun ⟨k, cy, out⟩ h' L' => k ≤ (limbs y.natAbs).length + 1 ∧ cy < 4294967296 ∧ out.length = (limbs x.natAbs).length + (limbs y.natAbs).length + 1 ∧ Bd out ∧ val out + Bs ^ (i + k) * cy = val ((limbs x.natAbs).take i) * val (limbs y.natAbs) + Bs ^ i * (limbs x.natAbs).getD i 0 * val ((limbs y.natAbs).take k) ∧ [(b17, row 78 (u32s out)), (b4, row 37 [.bool false, .slice none 0 0]), (b3, row 37 [.bool (decide (y < 0)), .slice pb (limbs y.natAbs).length cb]), (b2, row 37 [.bool (decide (x < 0)), .slice pa (limbs x.natAbs).length ca])] = L') [(2, .pointer _), (3, .pointer _), (4, .pointer _), (5, .slice _ _ _), (6, .int _ _)] ⟨rfl, rfl, rfl, rfl, rfl, trivial⟩ (fun ⟨k, cy, out⟩ => [(7, .int .u64 (cy : Int)), (8, .int .i64 (k : Int))]) (fun ⟨k, cy, out⟩ => (limbs y.natAbs).length + 2 - k) ((0, 0, out)) ⟨by omega, by omega, hol, hob, by simp [hov, val], rfl⟩ ⟨rfl, rfl, trivial⟩ ?_ | refine J.loopK (α := Nat × Nat × List Nat) (fun ⟨k, cy, out⟩ h' L' => k ≤ (limbs y.natAbs).length + 1 ∧ cy < 4294967296 ∧ out.length = (limbs x.natAbs).length + (limbs y.natAbs).length + 1 ∧ Bd out ∧ val out + Bs ^ (i + k) * cy = val ((limbs x.natAbs).take i) * val (limbs y.natAbs) + Bs ^ i * (limbs x.natAbs).getD i 0 * val ((limbs y.natAbs).take k) ∧ [(b17, row 78 (u32s out)), (b4, row 37 [.bool false, .slice none 0 0]), (b3, row 37 [.bool (decide (y < 0)), .slice pb (limbs y.natAbs).length cb]), (b2, row 37 [.bool (decide (x < 0)), .slice pa (limbs x.natAbs).length ca])] = L') [(2, _), (3, _), (4, _), (5, _), (6, _)] ⟨rfl, rfl, rfl, rfl, rfl, trivial⟩ (fun ⟨k, cy, out⟩ => [(7, .int .u64 (cy : Int)), (8, .int .i64 (k : Int))]) (fun ⟨k, cy, out⟩ => (limbs y.natAbs).length + 2 - k) ((0, 0, out)) ⟨by omega, by omega, hol, hob, by simp [hov, val], rfl⟩ ⟨rfl, rfl, trivial⟩ ?_
        rintro ⟨k, cy, out⟩ σ2 h2 L2 s2 ⟨hk, hcl, hol, hob, hv, rfl⟩
        -- cut: kept [2, 3, 4, 5, 6, 7, 8], said []
        first | refine J.cutK (α := Unit) (fun _ h' L' => (k < (limbs y.natAbs).length ∨ 0 < cy) ∧ [(b17, row 78 (u32s out)), (b4, row 37 [.bool false, .slice none 0 0]), (b3, row 37 [.bool (decide (y < 0)), .slice pb (limbs y.natAbs).length cb]), (b2, row 37 [.bool (decide (x < 0)), .slice pa (limbs x.natAbs).length ca])] = L') [(2, .pointer _), (3, .pointer _), (4, .pointer _), (5, .slice _ _ _), (6, .int _ _), (7, .int _ _), (8, .int _ _)] ⟨rfl, rfl, rfl, rfl, rfl, rfl, rfl, trivial⟩ (fun _ => []) ?_ ?_ | refine J.cutK (α := Unit) (fun _ h' L' => (k < (limbs y.natAbs).length ∨ 0 < cy) ∧ [(b17, row 78 (u32s out)), (b4, row 37 [.bool false, .slice none 0 0]), (b3, row 37 [.bool (decide (y < 0)), .slice pb (limbs y.natAbs).length cb]), (b2, row 37 [.bool (decide (x < 0)), .slice pa (limbs x.natAbs).length ca])] = L') [(2, _), (3, _), (4, _), (5, _), (6, _), (7, _), (8, _)] ⟨rfl, rfl, rfl, rfl, rfl, rfl, rfl, trivial⟩ (fun _ => []) ?_ ?_
        ·
          refine J.seq ?_
          rcases Nat.lt_or_ge k (limbs y.natAbs).length with c1 | c1
          rotate_left
          rcases Nat.eq_zero_or_pos cy with c3 | c3
          ·
            refine J.region ?_
            first | refine o_q (q_mvv (v := .int _ _) rfl) ?_ | refine o_q (q_mv) ?_
            refine o_q (q_fa rfl) ?_
            refine o_q (q_ld rfl inferInstance rfl) ?_
            refine o_q (q_len rfl) ?_
            refine o_q (q_lss rfl rfl) ?_
            first | refine o_q (q_mvv (v := .bool _) rfl) ?_ | refine o_q (q_mv) ?_
            refine JL.guardT rfl rfl (decide_eq_false (by omega)) ?_
            first | refine o_q (q_mvv (v := .int _ _) rfl) ?_ | refine o_q (q_mv) ?_
            refine JL.guardT rfl rfl (decide_eq_false (by omega)) ?_
            refine o_q (q_gtr rfl rfl) ?_
            first | refine o_q (q_pickFv (v := .bool _) rfl (decide_eq_false (by omega)) rfl) ?_ | refine o_q (q_pickF rfl (decide_eq_false (by omega))) ?_
            refine JL.nil ?_
            refine J.condF rfl (decide_eq_false (by omega)) ?_
            refine J.exit ?_
            exact ⟨out, rfl, ⟨rfl, rfl, rfl, rfl, rfl, trivial⟩, trivial, ⟨hol, hob, (by
              have h1 : cy = 0 := by omega
              rw [h1, List.take_of_length_le (l := (limbs y.natAbs)) (by omega)] at hv
              rw [val_take_succ, Nat.add_mul]; omega), rfl⟩, inferInstance⟩
          ·
            refine J.region ?_
            first | refine o_q (q_mvv (v := .int _ _) rfl) ?_ | refine o_q (q_mv) ?_
            refine o_q (q_fa rfl) ?_
            refine o_q (q_ld rfl inferInstance rfl) ?_
            refine o_q (q_len rfl) ?_
            refine o_q (q_lss rfl rfl) ?_
            first | refine o_q (q_mvv (v := .bool _) rfl) ?_ | refine o_q (q_mv) ?_
            refine JL.guardT rfl rfl (decide_eq_false (by omega)) ?_
            first | refine o_q (q_mvv (v := .int _ _) rfl) ?_ | refine o_q (q_mv) ?_
            refine JL.guardT rfl rfl (decide_eq_false (by omega)) ?_
            refine o_q (q_gtr rfl rfl) ?_
            first | refine o_q (q_pickFv (v := .bool _) rfl (decide_eq_false (by omega)) rfl) ?_ | refine o_q (q_pickF rfl (decide_eq_false (by omega))) ?_
            refine JL.nil ?_
            refine J.condT rfl (decide_eq_true (by omega)) ?_
            refine J.skip ?_
            exact ⟨(), rfl, ⟨rfl, rfl, rfl, rfl, rfl, rfl, rfl, trivial⟩, trivial, ⟨by omega, rfl⟩, inferInstance⟩
          ·
            refine J.region ?_
            first | refine o_q (q_mvv (v := .int _ _) rfl) ?_ | refine o_q (q_mv) ?_
            refine o_q (q_fa rfl) ?_
            refine o_q (q_ld rfl inferInstance rfl) ?_
            refine o_q (q_len rfl) ?_
            refine o_q (q_lss rfl rfl) ?_
            first | refine o_q (q_mvv (v := .bool _) rfl) ?_ | refine o_q (q_mv) ?_
            refine JL.guardF rfl rfl (decide_eq_true (by omega)) rfl ?_
            refine JL.guardF rfl rfl (decide_eq_true (by omega)) rfl ?_
            refine o_q (q_pickT rfl (decide_eq_true (by omega))) ?_
            refine JL.nil ?_
            refine J.condT rfl rfl ?_
            refine J.skip ?_
            exact ⟨(), rfl, ⟨rfl, rfl, rfl, rfl, rfl, rfl, rfl, trivial⟩, trivial, ⟨by omega, rfl⟩, inferInstance⟩
        ·
          rintro _ σ3 h3 L3 s3 ⟨hgo, rfl⟩
          refine J.seq ?_
          refine J.block ?_
          refine J.seq ?_
          have hkb : k < (limbs y.natAbs).length + 1 := by
            rcases hgo with h | h
            · omega
            · exact mul_bound (bd_abs x) (bd_abs y) c0' hv h
          obtain ⟨o, ho, hol2⟩ := has_limb (j := i + k) hob (by omega)
          refine J.region ?_
          first | refine o_q (q_mvv (v := .int _ _) rfl) ?_ | refine o_q (q_mv) ?_
          first | refine o_q (q_mvv (v := .slice _ _ _) rfl) ?_ | refine o_q (q_mv) ?_
          first | refine o_q (q_mvv (v := .int _ _) rfl) ?_ | refine o_q (q_mv) ?_
          first | refine o_q (q_mvv (v := .int _ _) rfl) ?_ | refine o_q (q_mv) ?_
          refine o_q (q_add (c := ((i + k : Nat) : Int)) rfl rfl (by rw [wi64 (by omega)]; omega)) ?_
          refine o_q (q_ia rfl rfl (by omega)) ?_
          refine o_q (q_ld (v := .int .u32 (o : Int)) rfl inferInstance (get_own ho)) ?_
          refine o_q (q_cv (c := (o : Int)) rfl (wu64 (by omega))) ?_
          refine o_q (q_add (c := ((cy + o : Nat) : Int)) rfl rfl (by rw [wu64 (by omega)]; omega)) ?_
          first | refine o_q (q_asv (v := .int _ _) rfl) ?_ | refine o_q (q_as) ?_
          refine JL.nil ?_
          -- cut: kept [2, 3, 4, 5, 6, 8], said [7]
          first | refine J.cutK (α := Nat) (fun s h' L' => s = cy + o + (limbs x.natAbs).getD i 0 * (limbs y.natAbs).getD k 0 ∧ s < 18446744073709551616 ∧ s / Bs < Bs ∧ [(b17, row 78 (u32s out)), (b4, row 37 [.bool false, .slice none 0 0]), (b3, row 37 [.bool (decide (y < 0)), .slice pb (limbs y.natAbs).length cb]), (b2, row 37 [.bool (decide (x < 0)), .slice pa (limbs x.natAbs).length ca])] = L') [(2, .pointer _), (3, .pointer _), (4, .pointer _), (5, .slice _ _ _), (6, .int _ _), (8, .int _ _)] ⟨rfl, rfl, rfl, rfl, rfl, rfl, trivial⟩ (fun s => [(7, .int .u64 (s : Int))]) ?_ ?_ | refine J.cutK (α := Nat) (fun s h' L' => s = cy + o + (limbs x.natAbs).getD i 0 * (limbs y.natAbs).getD k 0 ∧ s < 18446744073709551616 ∧ s / Bs < Bs ∧ [(b17, row 78 (u32s out)), (b4, row 37 [.bool false, .slice none 0 0]), (b3, row 37 [.bool (decide (y < 0)), .slice pb (limbs y.natAbs).length cb]), (b2, row 37 [.bool (decide (x < 0)), .slice pa (limbs x.natAbs).length ca])] = L') [(2, _), (3, _), (4, _), (5, _), (6, _), (8, _)] ⟨rfl, rfl, rfl, rfl, rfl, rfl, trivial⟩ (fun s => [(7, .int .u64 (s : Int))]) ?_ ?_
          ·
            refine J.seq ?_
            refine J.region ?_
            first | refine o_q (q_mvv (v := .int _ _) rfl) ?_ | refine o_q (q_mv) ?_
            refine o_q (q_fa rfl) ?_
            refine o_q (q_ld rfl inferInstance rfl) ?_
            refine o_q (q_len rfl) ?_
            refine o_q (q_lss rfl rfl) ?_
            refine JL.nil ?_
            refine J.condD rfl (fun c2 => ?_) (fun c2 => ?_)
            ·
              refine J.drawA [] ?_
              first | refine JD.calc 0 (by kernel_rfl) rfl trivial ss_sub (q_mvv (v := .int _ _) rfl) ?_ | refine JD.calc 0 (by kernel_rfl) rfl trivial ss_sub (q_mv) ?_
              refine JD.calc 1 (by kernel_rfl) rfl trivial ss_sub (q_fa rfl) ?_
              refine JD.load 2 (by kernel_rfl) rfl trivial (q_ld rfl inferInstance rfl) ?_
              first | refine JD.calc 3 (by kernel_rfl) rfl trivial ss_sub (q_mvv (v := .int _ _) rfl) ?_ | refine JD.calc 3 (by kernel_rfl) rfl trivial ss_sub (q_mv) ?_
              obtain ⟨ku, ou, u, rfl, hu, lu, hcu⟩ := MagAt.limb (j := i) ha (by omega)
              have gu := getD_some hu
              refine JD.calc 4 (by kernel_rfl) rfl trivial ss_sub (q_ia rfl rfl (by omega)) ?_
              refine JD.load 5 (by kernel_rfl) rfl trivial (q_ldf rfl hcu) ?_
              refine JD.calc 6 (by kernel_rfl) rfl trivial ss_sub (q_cv (c := (u : Int)) rfl (wu64 (by omega))) ?_
              refine JD.calc 7 (by kernel_rfl) rfl trivial ss_sub (q_fa rfl) ?_
              refine JD.load 8 (by kernel_rfl) rfl trivial (q_ld rfl inferInstance rfl) ?_
              first | refine JD.calc 9 (by kernel_rfl) rfl trivial ss_sub (q_mvv (v := .int _ _) rfl) ?_ | refine JD.calc 9 (by kernel_rfl) rfl trivial ss_sub (q_mv) ?_
              obtain ⟨kw, ow, w, rfl, hw, lw, hcw⟩ := MagAt.limb (j := k) hb (by omega)
              have gw := getD_some hw
              refine JD.calc 10 (by kernel_rfl) rfl trivial ss_sub (q_ia rfl rfl (by omega)) ?_
              refine JD.load 11 (by kernel_rfl) rfl trivial (q_ldf rfl hcw) ?_
              have hcar := carry_lt hcl hol2 lu lw
              refine JD.calc 12 (by kernel_rfl) rfl trivial ss_sub (q_cv (c := (w : Int)) rfl (wu64 (by omega))) ?_
              refine JD.calc 13 (by kernel_rfl) rfl trivial ss_sub (q_mul (c := ((u * w : Nat) : Int)) rfl rfl (by rw [← Int.natCast_mul, wu64 (by omega)])) ?_
              refine JD.calc 14 (by kernel_rfl) rfl trivial ss_sub (q_add (c := ((cy + o + u * w : Nat) : Int)) rfl rfl (by rw [wu64 (by omega)]; omega)) ?_
              first | refine JD.calc 15 (by kernel_rfl) rfl trivial ss_sub (q_asv (v := .int _ _) rfl) ?_ | refine JD.calc 15 (by kernel_rfl) rfl trivial ss_sub (q_as) ?_
              refine JD.done (by kernel_rfl) ?_ _
              first
                | exact ⟨cy + o + u * w, rfl, ⟨rfl, rfl, rfl, rfl, rfl, rfl, trivial⟩, ⟨rfl, trivial⟩, ⟨by rw [gu, gw], hcar.1, hcar.2, rfl⟩, inferInstance⟩
                | exact ⟨cy + o, rfl, ⟨rfl, rfl, rfl, rfl, rfl, rfl, trivial⟩, ⟨rfl, trivial⟩, ⟨by rw [gy]; rfl, by omega, by have hB : Bs = 4294967296 := rfl; rw [hB]; omega, rfl⟩, inferInstance⟩
            ·
              have gy := getD_none (l := (limbs y.natAbs)) (i := k) (by omega)
              refine J.skip ?_
              first
                | exact ⟨cy + o + u * w, rfl, ⟨rfl, rfl, rfl, rfl, rfl, rfl, trivial⟩, ⟨rfl, trivial⟩, ⟨by rw [gu, gw], hcar.1, hcar.2, rfl⟩, inferInstance⟩
                | exact ⟨cy + o, rfl, ⟨rfl, rfl, rfl, rfl, rfl, rfl, trivial⟩, ⟨rfl, trivial⟩, ⟨by rw [gy]; rfl, by omega, by have hB : Bs = 4294967296 := rfl; rw [hB]; omega, rfl⟩, inferInstance⟩
          ·
            rintro s σ5 h5 L5 s5 ⟨hs, hs1, hs2, rfl⟩
            have hB : Bs = 4294967296 := rfl
            refine J.seq ?_
            refine J.region ?_
            first | refine o_q (q_mvv (v := .slice _ _ _) rfl) ?_ | refine o_q (q_mv) ?_
            first | refine o_q (q_mvv (v := .int _ _) rfl) ?_ | refine o_q (q_mv) ?_
            first | refine o_q (q_mvv (v := .int _ _) rfl) ?_ | refine o_q (q_mv) ?_
            refine o_q (q_add (c := ((i + k : Nat) : Int)) rfl rfl (by rw [wi64 (by omega)]; omega)) ?_
            first | refine o_q (q_mvv (v := .int _ _) rfl) ?_ | refine o_q (q_mv) ?_
            refine o_q (q_cv (c := ((s % 4294967296 : Nat) : Int)) rfl (by rw [IntKind.wrap_u32]; omega)) ?_
            refine o_q (q_ia rfl rfl (by omega)) ?_
            first | refine o_st1 (v := .int _ _) rfl rfl rfl inferInstance (len_own _ _ (by omega)) ?_ | refine o_st1 rfl rfl rfl inferInstance (len_own _ _ (by omega)) ?_
            refine JL.nil ?_
            refine J.region ?_
            first | refine o_q (q_mvv (v := .int _ _) rfl) ?_ | refine o_q (q_mv) ?_
            refine o_q (q_quo (c := ((s / 4294967296 : Nat) : Int)) rfl rfl (by decide) (by rw [td32, wu64 (by omega)])) ?_
            first | refine o_q (q_asv (v := .int _ _) rfl) ?_ | refine o_q (q_as) ?_
            refine JL.nil ?_
            refine J.region ?_
            first | refine o_q (q_mvv (v := .int _ _) rfl) ?_ | refine o_q (q_mv) ?_
            refine o_q (q_add (c := ((k + 1 : Nat) : Int)) rfl rfl (by rw [wi64 (by omega)]; omega)) ?_
            first | refine o_q (q_asv (v := .int _ _) rfl) ?_ | refine o_q (q_as) ?_
            refine JL.nil ?_
            exact ⟨(k + 1, s / 4294967296, out.set (i + k) (s % 4294967296)), rfl, ⟨rfl, rfl, rfl, rfl, rfl, trivial⟩, ⟨rfl, rfl, trivial⟩, ⟨by omega, by omega, by simp [hol], hob.set (Nat.mod_lt _ (by decide)), (by
              have := mul_step (x := (limbs x.natAbs).getD i 0) (y := (limbs y.natAbs).getD k 0) ho hv
              rw [← hs] at this
              rw [val_take_succ, Nat.mul_add]; exact this.trans (Nat.add_assoc _ _ _)), (by rw [← set_own] <;> rfl)⟩, by show (limbs y.natAbs).length + 2 - (k + 1) < (limbs y.natAbs).length + 2 - k; omega, inferInstance⟩
      ·
        rintro out σ8 h8 L8 s8 ⟨hol, hob, hov, rfl⟩
        refine J.region ?_
        first | refine o_q (q_mvv (v := .int _ _) rfl) ?_ | refine o_q (q_mv) ?_
        refine o_q (q_add (c := ((i + 1 : Nat) : Int)) rfl rfl (by rw [wi64 (by omega)]; omega)) ?_
        first | refine o_q (q_asv (v := .int _ _) rfl) ?_ | refine o_q (q_as) ?_
        refine JL.nil ?_
        exact ⟨(i + 1, out), rfl, ⟨rfl, rfl, rfl, rfl, trivial⟩, ⟨rfl, trivial⟩, ⟨by omega, hol, hob, hov, rfl⟩, by show (limbs x.natAbs).length - (i + 1) < (limbs x.natAbs).length - i; omega, inferInstance⟩
    ·
      refine J.exit ?_
      exact ⟨out, rfl, ⟨rfl, rfl, rfl, rfl, trivial⟩, trivial, ⟨hol, hob, (by rw [hov, List.take_of_length_le (by omega)]), rfl⟩, inferInstance⟩
  ·
    rintro out σ9 h9 L9 s9 ⟨hol, hob, hov, rfl⟩
    refine J.seq ?_
    refine J.region ?_
    first | refine o_q (q_mvv (v := .slice _ _ _) rfl) ?_ | refine o_q (q_mv) ?_
    refine o_q (q_fa rfl) ?_
    refine o_q (q_ld rfl inferInstance rfl) ?_
    refine o_q (q_fa rfl) ?_
    refine o_q (q_ld rfl inferInstance rfl) ?_
    refine o_q (q_bne rfl rfl) ?_
    refine JL.fz b17 (fun h10 s10 hb10 => ?_)
    refine o_call (made_fn (MagAt.frozeN hb10 hob hol (Nat.le_refl _)) (by omega)) (fun r h11 s11 hr => ?_)
    rw [hov, val_limbs, val_limbs, mul_sign] at hr
    obtain ⟨pr, cr, rfl, _, hm1⟩ := hr.out
    refine o_stw (vs := [_, _]) rfl rfl rfl inferInstance rfl rfl ?_
    refine JL.nil ?_
    refine J.ret ?_
    exact ret_ok (fn := Try.f54) rfl (.agg rfl inferInstance inferInstance .nil) (IntAt.in hm1)
end Go.Z
