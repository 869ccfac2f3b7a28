/- Texts of ours, joined: Int2, Int3, Int4, Int5, RowLaw. -/
import Derived.Test.YtjdfhlkpfjhjoaaX4
import Derived.Test.YtjdfhlkpfjhjoaaX3
section
set_option linter.unusedSimpArgs false
set_option linter.unusedVariables false
/- The functions of package integer and of its reference, walked: products, signs, validity, comparison. -/
set_option linter.unusedSimpArgs false
set_option linter.unusedVariables false
namespace Go.Z
open Go Go.RowKit Go.Proofs
set_option maxHeartbeats 4000000 in
theorem mulr_fn {h : Heap} {va vb : Value} {x y : Int} (ha : IntAt h va x) (hb : IntAt h vb y) (fa : Fit x) (fb : Fit y) :
    Fn Try.prog 54 #[va, vb] h fun r h' => IntAt h' r (x * y) := by
  obtain ⟨pa, ca, rfl, hca, ha⟩ := ha.out
  obtain ⟨pb, cb, rfl, hcb, hb⟩ := hb.out
  have la := fa
  have lb := fb
  unfold Fit at la lb
  refine Fn.intro (args := [_, _]) Try.func54 rfl rfl (Nat.le_of_ble_eq_true rfl) fun w => ?_
  refine J.seq ?_
  refine J.region ?_
  first | refine o_bx (v := .agg _) rfl rfl (fun b2 => ?_) | refine o_bx rfl rfl (fun b2 => ?_)
  first | refine o_bx (v := .agg _) rfl rfl (fun b3 => ?_) | refine o_bx rfl rfl (fun b3 => ?_)
  refine o_al (fun b4 => ?_)
  refine JL.nil ?_
  refine J.seq ?_
  refine J.region ?_
  refine o_q (q_fa rfl) ?_
  refine o_q (q_ld rfl inferInstance rfl) ?_
  refine o_q (q_len rfl) ?_
  refine o_q (q_fa rfl) ?_
  refine o_q (q_ld rfl inferInstance rfl) ?_
  refine o_q (q_len rfl) ?_
  refine o_q (q_add rfl rfl (wi64 (by omega))) ?_
  refine o_q (q_add rfl rfl (wi64 (by omega))) ?_
  refine o_mk (n := (limbs x.natAbs).length + (limbs y.natAbs).length + 1) (m := (limbs x.natAbs).length + (limbs y.natAbs).length + 1) rfl rfl (by omega) (by omega) (Nat.le_refl _) (by omega) (by omega) (fun b17 => ?_)
  first | refine o_q (q_asv (v := .slice _ _ _) rfl) ?_ | refine o_q (q_as) ?_
  refine JL.nil ?_
  -- cut: kept [2, 3, 4, 5], said []
  first | refine J.cutK (α := List Nat) (fun out h' L' => out.length = (limbs x.natAbs).length + (limbs y.natAbs).length + 1 ∧ Bd out ∧ val out = val (limbs x.natAbs) * val (limbs y.natAbs) ∧ [(b17, row 78 (u32s out)), (b4, row 37 [.bool false, .slice none 0 0]), (b3, row 37 [.bool (decide (y < 0)), .slice pb (limbs y.natAbs).length cb]), (b2, row 37 [.bool (decide (x < 0)), .slice pa (limbs x.natAbs).length ca])] = L') [(2, .pointer _), (3, .pointer _), (4, .pointer _), (5, .slice _ _ _)] ⟨rfl, rfl, rfl, rfl, trivial⟩ (fun _ => []) ?_ ?_ | refine J.cutK (α := List Nat) (fun out h' L' => out.length = (limbs x.natAbs).length + (limbs y.natAbs).length + 1 ∧ Bd out ∧ val out = val (limbs x.natAbs) * val (limbs y.natAbs) ∧ [(b17, row 78 (u32s out)), (b4, row 37 [.bool false, .slice none 0 0]), (b3, row 37 [.bool (decide (y < 0)), .slice pb (limbs y.natAbs).length cb]), (b2, row 37 [.bool (decide (x < 0)), .slice pa (limbs x.natAbs).length ca])] = L') [(2, _), (3, _), (4, _), (5, _)] ⟨rfl, rfl, rfl, rfl, trivial⟩ (fun _ => []) ?_ ?_
  ·
    refine J.seq ?_
    refine J.region ?_
    refine o_q (q_as) ?_
    refine JL.nil ?_
    refine J.block ?_
    -- loop 0: kept [2, 3, 4, 5], said [6]
    first | refine J.loopK (α := Nat × List Nat) (fun ⟨i, out⟩ h' L' => i ≤ (limbs x.natAbs).length ∧ out.length = (limbs x.natAbs).length + (limbs y.natAbs).length + 1 ∧ Bd out ∧ val out = val ((limbs x.natAbs).take i) * val (limbs y.natAbs) ∧ [(b17, row 78 (u32s out)), (b4, row 37 [.bool false, .slice none 0 0]), (b3, row 37 [.bool (decide (y < 0)), .slice pb (limbs y.natAbs).length cb]), (b2, row 37 [.bool (decide (x < 0)), .slice pa (limbs x.natAbs).length ca])] = L') [(2, .pointer _), (3, .pointer _), (4, .pointer _), (5, .slice _ _ _)] ⟨rfl, rfl, rfl, rfl, trivial⟩ (fun ⟨i, out⟩ => [(6, .int .i64 (i : Int))]) (fun ⟨i, out⟩ => (limbs x.natAbs).length - i) ((0, List.replicate ((limbs x.natAbs).length + (limbs y.natAbs).length + 1) 0)) ⟨by omega, by simp, Bd.rep0 _, by simp [val_rep0, val], by rw [flat1]⟩ ⟨rfl, trivial⟩ ?_ | refine J.loopK (α := Nat × List Nat) (fun ⟨i, out⟩ h' L' => i ≤ (limbs x.natAbs).length ∧ out.length = (limbs x.natAbs).length + (limbs y.natAbs).length + 1 ∧ Bd out ∧ val out = val ((limbs x.natAbs).take i) * val (limbs y.natAbs) ∧ [(b17, row 78 (u32s out)), (b4, row 37 [.bool false, .slice none 0 0]), (b3, row 37 [.bool (decide (y < 0)), .slice pb (limbs y.natAbs).length cb]), (b2, row 37 [.bool (decide (x < 0)), .slice pa (limbs x.natAbs).length ca])] = L') [(2, _), (3, _), (4, _), (5, _)] ⟨rfl, rfl, rfl, rfl, trivial⟩ (fun ⟨i, out⟩ => [(6, .int .i64 (i : Int))]) (fun ⟨i, out⟩ => (limbs x.natAbs).length - i) ((0, List.replicate ((limbs x.natAbs).length + (limbs y.natAbs).length + 1) 0)) ⟨by omega, by simp, Bd.rep0 _, by simp [val_rep0, val], by rw [flat1]⟩ ⟨rfl, trivial⟩ ?_
    rintro ⟨i, out⟩ σ h1 L1 s1 ⟨hi, hol, hob, hov, rfl⟩
    refine J.seq ?_
    refine J.seq ?_
    refine J.region ?_
    first | refine o_q (q_mvv (v := .int _ _) rfl) ?_ | refine o_q (q_mv) ?_
    refine o_q (q_fa rfl) ?_
    refine o_q (q_ld rfl inferInstance rfl) ?_
    refine o_q (q_len rfl) ?_
    refine o_q (q_lss rfl rfl) ?_
    refine JL.nil ?_
    refine J.condD rfl (fun c0 => ?_) (fun c0 => ?_)
    ·
      have c0' : i < (limbs x.natAbs).length := by omega
      refine J.skip ?_
      -- cut: kept [2, 3, 4, 5, 6], said []
      first | refine J.cutK (α := List Nat) (fun out h' L' => out.length = (limbs x.natAbs).length + (limbs y.natAbs).length + 1 ∧ Bd out ∧ val out = val ((limbs x.natAbs).take (i + 1)) * val (limbs y.natAbs) ∧ [(b17, row 78 (u32s out)), (b4, row 37 [.bool false, .slice none 0 0]), (b3, row 37 [.bool (decide (y < 0)), .slice pb (limbs y.natAbs).length cb]), (b2, row 37 [.bool (decide (x < 0)), .slice pa (limbs x.natAbs).length ca])] = L') [(2, .pointer _), (3, .pointer _), (4, .pointer _), (5, .slice _ _ _), (6, .int _ _)] ⟨rfl, rfl, rfl, rfl, rfl, trivial⟩ (fun _ => []) ?_ ?_ | refine J.cutK (α := List Nat) (fun out h' L' => out.length = (limbs x.natAbs).length + (limbs y.natAbs).length + 1 ∧ Bd out ∧ val out = val ((limbs x.natAbs).take (i + 1)) * val (limbs y.natAbs) ∧ [(b17, row 78 (u32s out)), (b4, row 37 [.bool false, .slice none 0 0]), (b3, row 37 [.bool (decide (y < 0)), .slice pb (limbs y.natAbs).length cb]), (b2, row 37 [.bool (decide (x < 0)), .slice pa (limbs x.natAbs).length ca])] = L') [(2, _), (3, _), (4, _), (5, _), (6, _)] ⟨rfl, rfl, rfl, rfl, rfl, trivial⟩ (fun _ => []) ?_ ?_
      ·
        refine J.block ?_
        refine J.seq ?_
        refine J.region ?_
        refine o_q (q_as) ?_
        refine JL.nil ?_
        refine J.seq ?_
        refine J.region ?_
        refine o_q (q_as) ?_
        refine JL.nil ?_
        refine J.block ?_
        -- loop 1: kept [2, 3, 4, 5, 6], said [7, 8]
        first | refine J.loopK (α := Nat × Nat × List Nat) (fun ⟨k, cy, out⟩ h' L' => k ≤ (limbs y.natAbs).length + 1 ∧ cy < 4294967296 ∧ out.length = (limbs x.natAbs).length + (limbs y.natAbs).length + 1 ∧ Bd out ∧ val out + Bs ^ (i + k) * cy = val ((limbs x.natAbs).take i) * val (limbs y.natAbs) + Bs ^ i * (limbs x.natAbs).getD i 0 * val ((limbs y.natAbs).take k) ∧ [(b17, row 78 (u32s out)), (b4, row 37 [.bool false, .slice none 0 0]), (b3, row 37 [.bool (decide (y < 0)), .slice pb (limbs y.natAbs).length cb]), (b2, row 37 [.bool (decide (x < 0)), .slice pa (limbs x.natAbs).length ca])] = L') [(2, .pointer _), (3, .pointer _), (4, .pointer _), (5, .slice _ _ _), (6, .int _ _)] ⟨rfl, rfl, rfl, rfl, rfl, trivial⟩ (fun ⟨k, cy, out⟩ => [(7, .int .u64 (cy : Int)), (8, .int .i64 (k : Int))]) (fun ⟨k, cy, out⟩ => (limbs y.natAbs).length + 2 - k) ((0, 0, out)) ⟨by omega, by omega, hol, hob, by simp [hov, val], rfl⟩ ⟨rfl, rfl, trivial⟩ ?_ | refine J.loopK (α := Nat × Nat × List Nat) (fun ⟨k, cy, out⟩ h' L' => k ≤ (limbs y.natAbs).length + 1 ∧ cy < 4294967296 ∧ out.length = (limbs x.natAbs).length + (limbs y.natAbs).length + 1 ∧ Bd out ∧ val out + Bs ^ (i + k) * cy = val ((limbs x.natAbs).take i) * val (limbs y.natAbs) + Bs ^ i * (limbs x.natAbs).getD i 0 * val ((limbs y.natAbs).take k) ∧ [(b17, row 78 (u32s out)), (b4, row 37 [.bool false, .slice none 0 0]), (b3, row 37 [.bool (decide (y < 0)), .slice pb (limbs y.natAbs).length cb]), (b2, row 37 [.bool (decide (x < 0)), .slice pa (limbs x.natAbs).length ca])] = L') [(2, _), (3, _), (4, _), (5, _), (6, _)] ⟨rfl, rfl, rfl, rfl, rfl, trivial⟩ (fun ⟨k, cy, out⟩ => [(7, .int .u64 (cy : Int)), (8, .int .i64 (k : Int))]) (fun ⟨k, cy, out⟩ => (limbs y.natAbs).length + 2 - k) ((0, 0, out)) ⟨by omega, by omega, hol, hob, by simp [hov, val], rfl⟩ ⟨rfl, rfl, trivial⟩ ?_
        rintro ⟨k, cy, out⟩ σ2 h2 L2 s2 ⟨hk, hcl, hol, hob, hv, rfl⟩
        -- cut: kept [2, 3, 4, 5, 6, 7, 8], said []
        first | refine J.cutK (α := Unit) (fun _ h' L' => (k < (limbs y.natAbs).length ∨ 0 < cy) ∧ [(b17, row 78 (u32s out)), (b4, row 37 [.bool false, .slice none 0 0]), (b3, row 37 [.bool (decide (y < 0)), .slice pb (limbs y.natAbs).length cb]), (b2, row 37 [.bool (decide (x < 0)), .slice pa (limbs x.natAbs).length ca])] = L') [(2, .pointer _), (3, .pointer _), (4, .pointer _), (5, .slice _ _ _), (6, .int _ _), (7, .int _ _), (8, .int _ _)] ⟨rfl, rfl, rfl, rfl, rfl, rfl, rfl, trivial⟩ (fun _ => []) ?_ ?_ | refine J.cutK (α := Unit) (fun _ h' L' => (k < (limbs y.natAbs).length ∨ 0 < cy) ∧ [(b17, row 78 (u32s out)), (b4, row 37 [.bool false, .slice none 0 0]), (b3, row 37 [.bool (decide (y < 0)), .slice pb (limbs y.natAbs).length cb]), (b2, row 37 [.bool (decide (x < 0)), .slice pa (limbs x.natAbs).length ca])] = L') [(2, _), (3, _), (4, _), (5, _), (6, _), (7, _), (8, _)] ⟨rfl, rfl, rfl, rfl, rfl, rfl, rfl, trivial⟩ (fun _ => []) ?_ ?_
        ·
          refine J.seq ?_
          rcases Nat.lt_or_ge k (limbs y.natAbs).length with c1 | c1
          rotate_left
          rcases Nat.eq_zero_or_pos cy with c3 | c3
          ·
            refine J.region ?_
            first | refine o_q (q_mvv (v := .int _ _) rfl) ?_ | refine o_q (q_mv) ?_
            refine o_q (q_fa rfl) ?_
            refine o_q (q_ld rfl inferInstance rfl) ?_
            refine o_q (q_len rfl) ?_
            refine o_q (q_lss rfl rfl) ?_
            first | refine o_q (q_mvv (v := .bool _) rfl) ?_ | refine o_q (q_mv) ?_
            refine JL.guardT rfl rfl (decide_eq_false (by omega)) ?_
            first | refine o_q (q_mvv (v := .int _ _) rfl) ?_ | refine o_q (q_mv) ?_
            refine JL.guardT rfl rfl (decide_eq_false (by omega)) ?_
            refine o_q (q_gtr rfl rfl) ?_
            first | refine o_q (q_pickFv (v := .bool _) rfl (decide_eq_false (by omega)) rfl) ?_ | refine o_q (q_pickF rfl (decide_eq_false (by omega))) ?_
            refine JL.nil ?_
            refine J.condF rfl (decide_eq_false (by omega)) ?_
            refine J.exit ?_
            exact ⟨out, rfl, ⟨rfl, rfl, rfl, rfl, rfl, trivial⟩, trivial, ⟨hol, hob, (by
              have h1 : cy = 0 := by omega
              rw [h1, List.take_of_length_le (l := (limbs y.natAbs)) (by omega)] at hv
              rw [val_take_succ, Nat.add_mul]; omega), rfl⟩, inferInstance⟩
          ·
            refine J.region ?_
            first | refine o_q (q_mvv (v := .int _ _) rfl) ?_ | refine o_q (q_mv) ?_
            refine o_q (q_fa rfl) ?_
            refine o_q (q_ld rfl inferInstance rfl) ?_
            refine o_q (q_len rfl) ?_
            refine o_q (q_lss rfl rfl) ?_
            first | refine o_q (q_mvv (v := .bool _) rfl) ?_ | refine o_q (q_mv) ?_
            refine JL.guardT rfl rfl (decide_eq_false (by omega)) ?_
            first | refine o_q (q_mvv (v := .int _ _) rfl) ?_ | refine o_q (q_mv) ?_
            refine JL.guardT rfl rfl (decide_eq_false (by omega)) ?_
            refine o_q (q_gtr rfl rfl) ?_
            first | refine o_q (q_pickFv (v := .bool _) rfl (decide_eq_false (by omega)) rfl) ?_ | refine o_q (q_pickF rfl (decide_eq_false (by omega))) ?_
            refine JL.nil ?_
            refine J.condT rfl (decide_eq_true (by omega)) ?_
            refine J.skip ?_
            exact ⟨(), rfl, ⟨rfl, rfl, rfl, rfl, rfl, rfl, rfl, trivial⟩, trivial, ⟨by omega, rfl⟩, inferInstance⟩
          ·
            refine J.region ?_
            first | refine o_q (q_mvv (v := .int _ _) rfl) ?_ | refine o_q (q_mv) ?_
            refine o_q (q_fa rfl) ?_
            refine o_q (q_ld rfl inferInstance rfl) ?_
            refine o_q (q_len rfl) ?_
            refine o_q (q_lss rfl rfl) ?_
            first | refine o_q (q_mvv (v := .bool _) rfl) ?_ | refine o_q (q_mv) ?_
            refine JL.guardF rfl rfl (decide_eq_true (by omega)) rfl ?_
            refine JL.guardF rfl rfl (decide_eq_true (by omega)) rfl ?_
            refine o_q (q_pickT rfl (decide_eq_true (by omega))) ?_
            refine JL.nil ?_
            refine J.condT rfl rfl ?_
            refine J.skip ?_
            exact ⟨(), rfl, ⟨rfl, rfl, rfl, rfl, rfl, rfl, rfl, trivial⟩, trivial, ⟨by omega, rfl⟩, inferInstance⟩
        ·
          rintro _ σ3 h3 L3 s3 ⟨hgo, rfl⟩
          refine J.seq ?_
          refine J.block ?_
          refine J.seq ?_
          have hkb : k < (limbs y.natAbs).length + 1 := by
            rcases hgo with h | h
            · omega
            · exact mul_bound (bd_abs x) (bd_abs y) c0' hv h
          obtain ⟨o, ho, hol2⟩ := has_limb (j := i + k) hob (by omega)
          refine J.region ?_
          first | refine o_q (q_mvv (v := .int _ _) rfl) ?_ | refine o_q (q_mv) ?_
          first | refine o_q (q_mvv (v := .slice _ _ _) rfl) ?_ | refine o_q (q_mv) ?_
          first | refine o_q (q_mvv (v := .int _ _) rfl) ?_ | refine o_q (q_mv) ?_
          first | refine o_q (q_mvv (v := .int _ _) rfl) ?_ | refine o_q (q_mv) ?_
          refine o_q (q_add (c := ((i + k : Nat) : Int)) rfl rfl (by rw [wi64 (by omega)]; omega)) ?_
          refine o_q (q_ia rfl rfl (by omega)) ?_
          refine o_q (q_ld (v := .int .u32 (o : Int)) rfl inferInstance (get_own ho)) ?_
          refine o_q (q_cv (c := (o : Int)) rfl (wu64 (by omega))) ?_
          refine o_q (q_add (c := ((cy + o : Nat) : Int)) rfl rfl (by rw [wu64 (by omega)]; omega)) ?_
          first | refine o_q (q_asv (v := .int _ _) rfl) ?_ | refine o_q (q_as) ?_
          refine JL.nil ?_
          -- cut: kept [2, 3, 4, 5, 6, 8], said [7]
          first | refine J.cutK (α := Nat) (fun s h' L' => s = cy + o + (limbs x.natAbs).getD i 0 * (limbs y.natAbs).getD k 0 ∧ s < 18446744073709551616 ∧ s / Bs < Bs ∧ [(b17, row 78 (u32s out)), (b4, row 37 [.bool false, .slice none 0 0]), (b3, row 37 [.bool (decide (y < 0)), .slice pb (limbs y.natAbs).length cb]), (b2, row 37 [.bool (decide (x < 0)), .slice pa (limbs x.natAbs).length ca])] = L') [(2, .pointer _), (3, .pointer _), (4, .pointer _), (5, .slice _ _ _), (6, .int _ _), (8, .int _ _)] ⟨rfl, rfl, rfl, rfl, rfl, rfl, trivial⟩ (fun s => [(7, .int .u64 (s : Int))]) ?_ ?_ | refine J.cutK (α := Nat) (fun s h' L' => s = cy + o + (limbs x.natAbs).getD i 0 * (limbs y.natAbs).getD k 0 ∧ s < 18446744073709551616 ∧ s / Bs < Bs ∧ [(b17, row 78 (u32s out)), (b4, row 37 [.bool false, .slice none 0 0]), (b3, row 37 [.bool (decide (y < 0)), .slice pb (limbs y.natAbs).length cb]), (b2, row 37 [.bool (decide (x < 0)), .slice pa (limbs x.natAbs).length ca])] = L') [(2, _), (3, _), (4, _), (5, _), (6, _), (8, _)] ⟨rfl, rfl, rfl, rfl, rfl, rfl, trivial⟩ (fun s => [(7, .int .u64 (s : Int))]) ?_ ?_
          ·
            refine J.seq ?_
            refine J.region ?_
            first | refine o_q (q_mvv (v := .int _ _) rfl) ?_ | refine o_q (q_mv) ?_
            refine o_q (q_fa rfl) ?_
            refine o_q (q_ld rfl inferInstance rfl) ?_
            refine o_q (q_len rfl) ?_
            refine o_q (q_lss rfl rfl) ?_
            refine JL.nil ?_
            refine J.condD rfl (fun c2 => ?_) (fun c2 => ?_)
            ·
              refine J.drawA [] ?_
              first | refine JD.calc 0 (by kernel_rfl) rfl trivial ss_sub (q_mvv (v := .int _ _) rfl) ?_ | refine JD.calc 0 (by kernel_rfl) rfl trivial ss_sub (q_mv) ?_
              refine JD.calc 1 (by kernel_rfl) rfl trivial ss_sub (q_fa rfl) ?_
              refine JD.load 2 (by kernel_rfl) rfl trivial (q_ld rfl inferInstance rfl) ?_
              first | refine JD.calc 3 (by kernel_rfl) rfl trivial ss_sub (q_mvv (v := .int _ _) rfl) ?_ | refine JD.calc 3 (by kernel_rfl) rfl trivial ss_sub (q_mv) ?_
              obtain ⟨ku, ou, u, rfl, hu, lu, hcu⟩ := MagAt.limb (j := i) ha (by omega)
              have gu := getD_some hu
              refine JD.calc 4 (by kernel_rfl) rfl trivial ss_sub (q_ia rfl rfl (by omega)) ?_
              refine JD.load 5 (by kernel_rfl) rfl trivial (q_ldf rfl hcu) ?_
              refine JD.calc 6 (by kernel_rfl) rfl trivial ss_sub (q_cv (c := (u : Int)) rfl (wu64 (by omega))) ?_
              refine JD.calc 7 (by kernel_rfl) rfl trivial ss_sub (q_fa rfl) ?_
              refine JD.load 8 (by kernel_rfl) rfl trivial (q_ld rfl inferInstance rfl) ?_
              first | refine JD.calc 9 (by kernel_rfl) rfl trivial ss_sub (q_mvv (v := .int _ _) rfl) ?_ | refine JD.calc 9 (by kernel_rfl) rfl trivial ss_sub (q_mv) ?_
              obtain ⟨kw, ow, w, rfl, hw, lw, hcw⟩ := MagAt.limb (j := k) hb (by omega)
              have gw := getD_some hw
              refine JD.calc 10 (by kernel_rfl) rfl trivial ss_sub (q_ia rfl rfl (by omega)) ?_
              refine JD.load 11 (by kernel_rfl) rfl trivial (q_ldf rfl hcw) ?_
              have hcar := carry_lt hcl hol2 lu lw
              refine JD.calc 12 (by kernel_rfl) rfl trivial ss_sub (q_cv (c := (w : Int)) rfl (wu64 (by omega))) ?_
              refine JD.calc 13 (by kernel_rfl) rfl trivial ss_sub (q_mul (c := ((u * w : Nat) : Int)) rfl rfl (by rw [← Int.natCast_mul, wu64 (by omega)])) ?_
              refine JD.calc 14 (by kernel_rfl) rfl trivial ss_sub (q_add (c := ((cy + o + u * w : Nat) : Int)) rfl rfl (by rw [wu64 (by omega)]; omega)) ?_
              first | refine JD.calc 15 (by kernel_rfl) rfl trivial ss_sub (q_asv (v := .int _ _) rfl) ?_ | refine JD.calc 15 (by kernel_rfl) rfl trivial ss_sub (q_as) ?_
              refine JD.done (by kernel_rfl) ?_ _
              first
                | exact ⟨cy + o + u * w, rfl, ⟨rfl, rfl, rfl, rfl, rfl, rfl, trivial⟩, ⟨rfl, trivial⟩, ⟨by rw [gu, gw], hcar.1, hcar.2, rfl⟩, inferInstance⟩
                | exact ⟨cy + o, rfl, ⟨rfl, rfl, rfl, rfl, rfl, rfl, trivial⟩, ⟨rfl, trivial⟩, ⟨by rw [gy]; rfl, by omega, by have hB : Bs = 4294967296 := rfl; rw [hB]; omega, rfl⟩, inferInstance⟩
            ·
              have gy := getD_none (l := (limbs y.natAbs)) (i := k) (by omega)
              refine J.skip ?_
              first
                | exact ⟨cy + o + u * w, rfl, ⟨rfl, rfl, rfl, rfl, rfl, rfl, trivial⟩, ⟨rfl, trivial⟩, ⟨by rw [gu, gw], hcar.1, hcar.2, rfl⟩, inferInstance⟩
                | exact ⟨cy + o, rfl, ⟨rfl, rfl, rfl, rfl, rfl, rfl, trivial⟩, ⟨rfl, trivial⟩, ⟨by rw [gy]; rfl, by omega, by have hB : Bs = 4294967296 := rfl; rw [hB]; omega, rfl⟩, inferInstance⟩
          ·
            rintro s σ5 h5 L5 s5 ⟨hs, hs1, hs2, rfl⟩
            have hB : Bs = 4294967296 := rfl
            refine J.seq ?_
            refine J.region ?_
            first | refine o_q (q_mvv (v := .slice _ _ _) rfl) ?_ | refine o_q (q_mv) ?_
            first | refine o_q (q_mvv (v := .int _ _) rfl) ?_ | refine o_q (q_mv) ?_
            first | refine o_q (q_mvv (v := .int _ _) rfl) ?_ | refine o_q (q_mv) ?_
            refine o_q (q_add (c := ((i + k : Nat) : Int)) rfl rfl (by rw [wi64 (by omega)]; omega)) ?_
            first | refine o_q (q_mvv (v := .int _ _) rfl) ?_ | refine o_q (q_mv) ?_
            refine o_q (q_cv (c := ((s % 4294967296 : Nat) : Int)) rfl (by rw [IntKind.wrap_u32]; omega)) ?_
            refine o_q (q_ia rfl rfl (by omega)) ?_
            first | refine o_st1 (v := .int _ _) rfl rfl rfl inferInstance (len_own _ _ (by omega)) ?_ | refine o_st1 rfl rfl rfl inferInstance (len_own _ _ (by omega)) ?_
            refine JL.nil ?_
            refine J.region ?_
            first | refine o_q (q_mvv (v := .int _ _) rfl) ?_ | refine o_q (q_mv) ?_
            refine o_q (q_quo (c := ((s / 4294967296 : Nat) : Int)) rfl rfl (by decide) (by rw [td32, wu64 (by omega)])) ?_
            first | refine o_q (q_asv (v := .int _ _) rfl) ?_ | refine o_q (q_as) ?_
            refine JL.nil ?_
            refine J.region ?_
            first | refine o_q (q_mvv (v := .int _ _) rfl) ?_ | refine o_q (q_mv) ?_
            refine o_q (q_add (c := ((k + 1 : Nat) : Int)) rfl rfl (by rw [wi64 (by omega)]; omega)) ?_
            first | refine o_q (q_asv (v := .int _ _) rfl) ?_ | refine o_q (q_as) ?_
            refine JL.nil ?_
            exact ⟨(k + 1, s / 4294967296, out.set (i + k) (s % 4294967296)), rfl, ⟨rfl, rfl, rfl, rfl, rfl, trivial⟩, ⟨rfl, rfl, trivial⟩, ⟨by omega, by omega, by simp [hol], hob.set (Nat.mod_lt _ (by decide)), (by
              have := mul_step (x := (limbs x.natAbs).getD i 0) (y := (limbs y.natAbs).getD k 0) ho hv
              rw [← hs] at this
              rw [val_take_succ, Nat.mul_add]; exact this.trans (Nat.add_assoc _ _ _)), (by rw [← set_own] <;> rfl)⟩, by show (limbs y.natAbs).length + 2 - (k + 1) < (limbs y.natAbs).length + 2 - k; omega, inferInstance⟩
      ·
        rintro out σ8 h8 L8 s8 ⟨hol, hob, hov, rfl⟩
        refine J.region ?_
        first | refine o_q (q_mvv (v := .int _ _) rfl) ?_ | refine o_q (q_mv) ?_
        refine o_q (q_add (c := ((i + 1 : Nat) : Int)) rfl rfl (by rw [wi64 (by omega)]; omega)) ?_
        first | refine o_q (q_asv (v := .int _ _) rfl) ?_ | refine o_q (q_as) ?_
        refine JL.nil ?_
        exact ⟨(i + 1, out), rfl, ⟨rfl, rfl, rfl, rfl, trivial⟩, ⟨rfl, trivial⟩, ⟨by omega, hol, hob, hov, rfl⟩, by show (limbs x.natAbs).length - (i + 1) < (limbs x.natAbs).length - i; omega, inferInstance⟩
    ·
      refine J.exit ?_
      exact ⟨out, rfl, ⟨rfl, rfl, rfl, rfl, trivial⟩, trivial, ⟨hol, hob, (by rw [hov, List.take_of_length_le (by omega)]), rfl⟩, inferInstance⟩
  ·
    rintro out σ9 h9 L9 s9 ⟨hol, hob, hov, rfl⟩
    refine J.seq ?_
    refine J.region ?_
    first | refine o_q (q_mvv (v := .slice _ _ _) rfl) ?_ | refine o_q (q_mv) ?_
    refine o_q (q_fa rfl) ?_
    refine o_q (q_ld rfl inferInstance rfl) ?_
    refine o_q (q_fa rfl) ?_
    refine o_q (q_ld rfl inferInstance rfl) ?_
    refine o_q (q_bne rfl rfl) ?_
    refine JL.fz b17 (fun h10 s10 hb10 => ?_)
    refine o_call (made_fn (MagAt.frozeN hb10 hob hol (Nat.le_refl _)) (by omega)) (fun r h11 s11 hr => ?_)
    rw [hov, val_limbs, val_limbs, mul_sign] at hr
    obtain ⟨pr, cr, rfl, _, hm1⟩ := hr.out
    refine o_stw (vs := [_, _]) rfl rfl rfl inferInstance rfl rfl ?_
    refine JL.nil ?_
    refine J.ret ?_
    exact ret_ok (fn := Try.f54) rfl (.agg rfl inferInstance inferInstance .nil) (IntAt.in hm1)
end Go.Z
end
section
set_option linter.unusedSimpArgs false
set_option linter.unusedVariables false
/- The functions of package integer, walked: signs, validity, comparison, sums, differences, products. -/
set_option linter.unusedSimpArgs false
set_option linter.unusedVariables false
namespace Go.Z
open Go Go.RowKit Go.Proofs
/-- The sign, from the parts. -/
def sgn (neg : Bool) (l : List Nat) : Int := if l.length = 0 then 0 else if neg then -1 else 1
/-- Whether the parts are canonical. -/
def canon (neg : Bool) (l : List Nat) : Bool := if l.length = 0 then !neg else decide (l.getD (l.length - 1) 0 ≠ 0)
theorem sgn_int (z : Int) : sgn (decide (z < 0)) (limbs z.natAbs) = z.sign := by
  unfold sgn
  have h0 : (limbs z.natAbs).length = 0 ↔ z = 0 := by rw [List.length_eq_zero_iff, limbs_nil_iff]; omega
  simp only [h0]
  rcases (show z < 0 ∨ z = 0 ∨ 0 < z by omega) with h | h | h
  · rw [if_neg (by omega), if_pos (by simpa using h), Int.sign_eq_neg_one_of_neg h]
  · subst h; rfl
  · rw [if_neg (by omega), if_neg (by simp; omega), Int.sign_eq_one_of_pos h]
theorem sgn_zero (z : Int) : sgn (decide (z < 0)) (limbs z.natAbs) = 0 ↔ z = 0 := by rw [sgn_int, Int.sign_eq_zero_iff_zero]
theorem sign_fn {h : Heap} {v : Value} {neg : Bool} {l : List Nat} (hv : RawAt h v neg l) (hN : l.length ≤ 9223372036854775807) :
    Fn Try.prog 45 #[v] h fun r _ => r = .int .i64 (sgn neg l) := by
  obtain ⟨p, c, rfl, hc, hm⟩ := hv.out
  unfold sgn
  refine Fn.intro (args := [_]) Try.func45 rfl rfl (Nat.le_of_ble_eq_true rfl) fun w => ?_
  refine J.seq ?_
  refine J.region ?_
  first | refine o_bx (v := .agg _) rfl rfl (fun b1 => ?_) | refine o_bx rfl rfl (fun b1 => ?_)
  refine o_q (q_as) ?_
  refine JL.nil ?_
  refine J.seq ?_
  refine J.block ?_
  refine J.seq ?_
  refine J.region ?_
  refine o_q (q_fa rfl) ?_
  refine o_q (q_ld rfl inferInstance rfl) ?_
  refine o_q (q_len rfl) ?_
  refine o_q (q_eql rfl rfl) ?_
  first | refine o_q (q_asv (v := .bool _) rfl) ?_ | refine o_q (q_as) ?_
  refine JL.nil ?_
  refine J.condD rfl (fun c0 => ?_) (fun c0 => ?_)
  ·
    refine J.seq ?_
    refine J.region ?_
    refine o_q (q_as) ?_
    refine JL.nil ?_
    refine J.ret ?_
    exact ret_ok (fn := Try.f45) rfl (.tmp rfl .nil) (by rw [if_pos (by omega)] <;> rfl)
  ·
    refine J.seq ?_
    refine J.region ?_
    refine o_q (q_fa rfl) ?_
    refine o_q (q_ld rfl inferInstance rfl) ?_
    first | refine o_q (q_asv (v := .bool _) rfl) ?_ | refine o_q (q_as) ?_
    refine JL.nil ?_
    refine J.cond rfl (fun c1 => ?_) (fun c1 => ?_)
    ·
      refine J.seq ?_
      refine J.region ?_
      refine o_q (q_as) ?_
      refine JL.nil ?_
      refine J.ret ?_
      exact ret_ok (fn := Try.f45) rfl (.tmp rfl .nil) (by rw [if_neg (by omega), if_pos c1] <;> rfl)
    ·
      refine J.skip ?_
      refine J.seq ?_
      refine J.region ?_
      refine o_q (q_as) ?_
      refine JL.nil ?_
      refine J.ret ?_
      exact ret_ok (fn := Try.f45) rfl (.tmp rfl .nil) (by rw [if_neg (by omega), if_neg (by rw [c1]; decide)] <;> rfl)
theorem signr_fn {h : Heap} {v : Value} {neg : Bool} {l : List Nat} (hv : RawAt h v neg l) (hN : l.length ≤ 9223372036854775807) :
    Fn Try.prog 46 #[v] h fun r _ => r = .int .i64 (sgn neg l) := by
  obtain ⟨p, c, rfl, hc, hm⟩ := hv.out
  unfold sgn
  refine Fn.intro (args := [_]) Try.func46 rfl rfl (Nat.le_of_ble_eq_true rfl) fun w => ?_
  refine J.seq ?_
  refine J.region ?_
  first | refine o_bx (v := .agg _) rfl rfl (fun b1 => ?_) | refine o_bx rfl rfl (fun b1 => ?_)
  refine o_q (q_as) ?_
  refine JL.nil ?_
  refine J.seq ?_
  refine J.seq ?_
  refine J.region ?_
  refine o_q (q_fa rfl) ?_
  refine o_q (q_ld rfl inferInstance rfl) ?_
  refine o_q (q_len rfl) ?_
  refine o_q (q_eql rfl rfl) ?_
  refine JL.nil ?_
  refine J.condD rfl (fun c0 => ?_) (fun c0 => ?_)
  ·
    refine J.seq ?_
    refine J.region ?_
    refine o_q (q_as) ?_
    refine JL.nil ?_
    refine J.ret ?_
    exact ret_ok (fn := Try.f46) rfl (.tmp rfl .nil) (by rw [if_pos (by omega)] <;> rfl)
  ·
    refine J.skip ?_
    refine J.seq ?_
    refine J.seq ?_
    refine J.region ?_
    refine o_q (q_fa rfl) ?_
    refine o_q (q_ld rfl inferInstance rfl) ?_
    refine JL.nil ?_
    refine J.cond rfl (fun c1 => ?_) (fun c1 => ?_)
    ·
      refine J.seq ?_
      refine J.region ?_
      refine o_q (q_as) ?_
      refine JL.nil ?_
      refine J.ret ?_
      exact ret_ok (fn := Try.f46) rfl (.tmp rfl .nil) (by rw [if_neg (by omega), if_pos c1] <;> rfl)
    ·
      refine J.skip ?_
      refine J.seq ?_
      refine J.region ?_
      refine o_q (q_as) ?_
      refine JL.nil ?_
      refine J.ret ?_
      exact ret_ok (fn := Try.f46) rfl (.tmp rfl .nil) (by rw [if_neg (by omega), if_neg (by rw [c1]; decide)] <;> rfl)
theorem validr_fn {h : Heap} {v : Value} {neg : Bool} {l : List Nat} (hv : RawAt h v neg l) (hN : l.length ≤ 9223372036854775807) :
    Fn Try.prog 52 #[v] h fun r _ => r = .bool (canon neg l) := by
  obtain ⟨p, c, rfl, hc, hm⟩ := hv.out
  unfold canon
  refine Fn.intro (args := [_]) Try.func52 rfl rfl (Nat.le_of_ble_eq_true rfl) fun w => ?_
  refine J.seq ?_
  refine J.region ?_
  first | refine o_bx (v := .agg _) rfl rfl (fun b1 => ?_) | refine o_bx rfl rfl (fun b1 => ?_)
  refine o_q (q_as) ?_
  refine JL.nil ?_
  refine J.seq ?_
  refine J.seq ?_
  refine J.region ?_
  refine o_q (q_fa rfl) ?_
  refine o_q (q_ld rfl inferInstance rfl) ?_
  refine o_q (q_len rfl) ?_
  refine o_q (q_eql rfl rfl) ?_
  refine JL.nil ?_
  refine J.condD rfl (fun c0 => ?_) (fun c0 => ?_)
  ·
    refine J.seq ?_
    refine J.region ?_
    refine o_q (q_fa rfl) ?_
    refine o_q (q_ld rfl inferInstance rfl) ?_
    refine o_q (q_not rfl) ?_
    first | refine o_q (q_asv (v := .bool _) rfl) ?_ | refine o_q (q_as) ?_
    refine JL.nil ?_
    refine J.ret ?_
    exact ret_ok (fn := Try.f52) rfl (.tmp rfl .nil) (by rw [if_pos (by omega)] <;> rfl)
  ·
    refine J.skip ?_
    refine J.seq ?_
    refine J.region ?_
    refine o_q (q_fa rfl) ?_
    refine o_q (q_ld rfl inferInstance rfl) ?_
    refine o_q (q_fa rfl) ?_
    refine o_q (q_ld rfl inferInstance rfl) ?_
    refine o_q (q_len rfl) ?_
    refine o_q (q_sub (c := ((l.length - 1 : Nat) : Int)) rfl rfl (by rw [wi64 (by omega)]; omega)) ?_
    obtain ⟨kx, ox, x, rfl, hx, lx, hcx⟩ := MagAt.limb (j := l.length - 1) hm (by omega)
    refine o_q (q_ia rfl rfl (by omega)) ?_
    refine o_q (q_ldf rfl hcx) ?_
    refine o_q (q_neq rfl rfl) ?_
    first | refine o_q (q_asv (v := .bool _) rfl) ?_ | refine o_q (q_as) ?_
    refine JL.nil ?_
    refine J.ret ?_
    refine ret_ok (fn := Try.f52) rfl (.tmp rfl .nil) ?_
    rw [if_neg (by omega), getD_some hx]
    exact congrArg Value.bool (decide_eq_decide.2 (by omega))
theorem valid_fn {h : Heap} {v : Value} {neg : Bool} {l : List Nat} (hv : RawAt h v neg l) (hN : l.length ≤ 9223372036854775807) :
    Fn Try.prog 44 #[v] h fun r _ => r = .bool (canon neg l) := by
  obtain ⟨p, c, rfl, hc, hm⟩ := hv.out
  unfold canon
  refine Fn.intro (args := [_]) Try.func44 rfl rfl (Nat.le_of_ble_eq_true rfl) fun w => ?_
  refine J.seq ?_
  refine J.region ?_
  first | refine o_bx (v := .agg _) rfl rfl (fun b1 => ?_) | refine o_bx rfl rfl (fun b1 => ?_)
  refine o_q (q_as) ?_
  refine JL.nil ?_
  refine J.seq ?_
  refine J.region ?_
  refine o_q (q_fa rfl) ?_
  refine o_q (q_ld rfl inferInstance rfl) ?_
  refine o_q (q_len rfl) ?_
  first | refine o_q (q_asv (v := .int _ _) rfl) ?_ | refine o_q (q_as) ?_
  refine JL.nil ?_
  refine J.seq ?_
  rcases Nat.eq_zero_or_pos l.length with c0 | c0
  cases neg
  ·
    refine J.region ?_
    first | refine o_q (q_mvv (v := .int _ _) rfl) ?_ | refine o_q (q_mv) ?_
    refine o_q (q_eql rfl rfl) ?_
    first | refine o_q (q_mvv (v := .bool _) rfl) ?_ | refine o_q (q_mv) ?_
    refine JL.guardT rfl rfl (decide_eq_true (by omega)) ?_
    refine o_q (q_fa rfl) ?_
    refine JL.guardT rfl rfl (decide_eq_true (by omega)) ?_
    refine o_q (q_ld rfl inferInstance rfl) ?_
    refine JL.guardT rfl rfl (decide_eq_true (by omega)) ?_
    refine o_q (q_not rfl) ?_
    first | refine o_q (q_pickTv (v := .bool _) rfl (decide_eq_true (by omega)) rfl) ?_ | refine o_q (q_pickT rfl (decide_eq_true (by omega))) ?_
    first | refine o_q (q_mvv (v := .bool _) rfl) ?_ | refine o_q (q_mv) ?_
    refine JL.guardF rfl rfl rfl rfl ?_
    refine JL.guardF rfl rfl rfl rfl ?_
    refine JL.guardF rfl rfl rfl rfl ?_
    refine JL.guardU rfl rfl rfl ?_
    refine JL.guardU rfl rfl rfl ?_
    refine JL.guardU rfl rfl rfl ?_
    refine JL.guardU rfl rfl rfl ?_
    refine JL.guardU rfl rfl rfl ?_
    refine JL.guardU rfl rfl rfl ?_
    refine JL.guardU rfl rfl rfl ?_
    refine JL.guardF rfl rfl rfl rfl ?_
    refine o_q (q_pickT rfl rfl) ?_
    first | refine o_q (q_asv (v := .bool _) rfl) ?_ | refine o_q (q_as) ?_
    refine JL.nil ?_
    refine J.ret ?_
    exact ret_ok (fn := Try.f44) rfl (.tmp rfl .nil) (by rw [if_pos c0] <;> rfl)
  ·
    refine J.region ?_
    first | refine o_q (q_mvv (v := .int _ _) rfl) ?_ | refine o_q (q_mv) ?_
    refine o_q (q_eql rfl rfl) ?_
    first | refine o_q (q_mvv (v := .bool _) rfl) ?_ | refine o_q (q_mv) ?_
    refine JL.guardT rfl rfl (decide_eq_true (by omega)) ?_
    refine o_q (q_fa rfl) ?_
    refine JL.guardT rfl rfl (decide_eq_true (by omega)) ?_
    refine o_q (q_ld rfl inferInstance rfl) ?_
    refine JL.guardT rfl rfl (decide_eq_true (by omega)) ?_
    refine o_q (q_not rfl) ?_
    first | refine o_q (q_pickTv (v := .bool _) rfl (decide_eq_true (by omega)) rfl) ?_ | refine o_q (q_pickT rfl (decide_eq_true (by omega))) ?_
    first | refine o_q (q_mvv (v := .bool _) rfl) ?_ | refine o_q (q_mv) ?_
    refine JL.guardT rfl rfl rfl ?_
    first | refine o_q (q_mvv (v := .int _ _) rfl) ?_ | refine o_q (q_mv) ?_
    refine JL.guardT rfl rfl rfl ?_
    refine o_q (q_gtr rfl rfl) ?_
    refine JL.guardT rfl rfl rfl ?_
    first | refine o_q (q_mvv (v := .bool _) rfl) ?_ | refine o_q (q_mv) ?_
    refine JL.guardF rfl rfl (decide_eq_false (by omega)) rfl ?_
    refine JL.guardF rfl rfl (decide_eq_false (by omega)) rfl ?_
    refine JL.guardF rfl rfl (decide_eq_false (by omega)) rfl ?_
    refine JL.guardF rfl rfl (decide_eq_false (by omega)) rfl ?_
    refine JL.guardF rfl rfl (decide_eq_false (by omega)) rfl ?_
    refine JL.guardF rfl rfl (decide_eq_false (by omega)) rfl ?_
    refine JL.guardF rfl rfl (decide_eq_false (by omega)) rfl ?_
    refine JL.guardT rfl rfl rfl ?_
    refine o_q (q_pickF rfl (decide_eq_false (by omega))) ?_
    first | refine o_q (q_pickFv (v := .bool _) rfl rfl rfl) ?_ | refine o_q (q_pickF rfl rfl) ?_
    first | refine o_q (q_asv (v := .bool _) rfl) ?_ | refine o_q (q_as) ?_
    refine JL.nil ?_
    refine J.ret ?_
    exact ret_ok (fn := Try.f44) rfl (.tmp rfl .nil) (by rw [if_pos c0] <;> rfl)
  ·
    refine J.region ?_
    first | refine o_q (q_mvv (v := .int _ _) rfl) ?_ | refine o_q (q_mv) ?_
    refine o_q (q_eql rfl rfl) ?_
    first | refine o_q (q_mvv (v := .bool _) rfl) ?_ | refine o_q (q_mv) ?_
    refine JL.guardF rfl rfl (decide_eq_false (by omega)) rfl ?_
    refine JL.guardF rfl rfl (decide_eq_false (by omega)) rfl ?_
    refine JL.guardF rfl rfl (decide_eq_false (by omega)) rfl ?_
    refine o_q (q_pickF rfl (decide_eq_false (by omega))) ?_
    first | refine o_q (q_mvv (v := .bool _) rfl) ?_ | refine o_q (q_mv) ?_
    refine JL.guardT rfl rfl rfl ?_
    first | refine o_q (q_mvv (v := .int _ _) rfl) ?_ | refine o_q (q_mv) ?_
    refine JL.guardT rfl rfl rfl ?_
    refine o_q (q_gtr rfl rfl) ?_
    refine JL.guardT rfl rfl rfl ?_
    first | refine o_q (q_mvv (v := .bool _) rfl) ?_ | refine o_q (q_mv) ?_
    refine JL.guardT rfl rfl (decide_eq_true (by omega)) ?_
    refine o_q (q_fa rfl) ?_
    refine JL.guardT rfl rfl (decide_eq_true (by omega)) ?_
    refine o_q (q_ld rfl inferInstance rfl) ?_
    refine JL.guardT rfl rfl (decide_eq_true (by omega)) ?_
    first | refine o_q (q_mvv (v := .int _ _) rfl) ?_ | refine o_q (q_mv) ?_
    refine JL.guardT rfl rfl (decide_eq_true (by omega)) ?_
    refine o_q (q_sub (c := ((l.length - 1 : Nat) : Int)) rfl rfl (by rw [wi64 (by omega)]; omega)) ?_
    refine JL.guardT rfl rfl (decide_eq_true (by omega)) ?_
    obtain ⟨kx, ox, x, rfl, hx, lx, hcx⟩ := MagAt.limb (j := l.length - 1) hm (by omega)
    refine o_q (q_ia rfl rfl (by omega)) ?_
    refine JL.guardT rfl rfl (decide_eq_true (by omega)) ?_
    refine o_q (q_ldf rfl hcx) ?_
    refine JL.guardT rfl rfl (decide_eq_true (by omega)) ?_
    refine o_q (q_neq rfl rfl) ?_
    refine JL.guardT rfl rfl rfl ?_
    first | refine o_q (q_pickTv (v := .bool _) rfl (decide_eq_true (by omega)) rfl) ?_ | refine o_q (q_pickT rfl (decide_eq_true (by omega))) ?_
    first | refine o_q (q_pickFv (v := .bool _) rfl rfl rfl) ?_ | refine o_q (q_pickF rfl rfl) ?_
    first | refine o_q (q_asv (v := .bool _) rfl) ?_ | refine o_q (q_as) ?_
    refine JL.nil ?_
    refine J.ret ?_
    refine ret_ok (fn := Try.f44) rfl (.tmp rfl .nil) ?_
    rw [if_neg (by omega), getD_some hx]
    exact congrArg Value.bool (decide_eq_decide.2 (by omega))
theorem nani_fn {h : Heap} {a : Int} :
    Fn Try.prog 83 #[.int .i64 a] h fun r _ => r = .bool false := by
  refine Fn.intro (args := [_]) Try.func83 rfl rfl (Nat.le_of_ble_eq_true rfl) fun w => ?_
  refine J.seq ?_
  refine J.region ?_
  refine o_q (q_as) ?_
  refine JL.nil ?_
  refine J.seq ?_
  refine J.region ?_
  first | refine o_q (q_mvv (v := .int _ _) rfl) ?_ | refine o_q (q_mv) ?_
  first | refine o_q (q_mvv (v := .int _ _) rfl) ?_ | refine o_q (q_mv) ?_
  refine o_q (q_neq rfl rfl) ?_
  first | refine o_q (q_asv (v := .bool _) rfl) ?_ | refine o_q (q_as) ?_
  refine JL.nil ?_
  refine J.ret ?_
  exact ret_ok (fn := Try.f83) rfl (.tmp rfl .nil) (congrArg Value.bool (decide_eq_false (by omega)))
def cmp3 (a b : Int) : Int := if a < b then -1 else if b < a then 1 else 0
theorem cmpi_fn {h : Heap} {a b : Int} :
    Fn Try.prog 73 #[.int .i64 a, .int .i64 b] h fun r _ => r = .int .i64 (cmp3 a b) := by
  refine Fn.intro (args := [_, _]) Try.func73 rfl rfl (Nat.le_of_ble_eq_true rfl) fun w => ?_
  refine J.seq ?_
  refine J.region ?_
  refine o_q (q_as) ?_
  refine JL.nil ?_
  refine J.seq ?_
  refine J.region ?_
  first | refine o_q (q_mvv (v := .int _ _) rfl) ?_ | refine o_q (q_mv) ?_
  refine o_call nani_fn (fun v1 hv1 sv1 ev1 => ?_)
  subst ev1
  first | refine o_q (q_asv (v := .bool _) rfl) ?_ | refine o_q (q_as) ?_
  refine JL.nil ?_
  refine J.seq ?_
  refine J.region ?_
  first | refine o_q (q_mvv (v := .int _ _) rfl) ?_ | refine o_q (q_mv) ?_
  refine o_call nani_fn (fun v2 hv2 sv2 ev2 => ?_)
  subst ev2
  first | refine o_q (q_asv (v := .bool _) rfl) ?_ | refine o_q (q_as) ?_
  refine JL.nil ?_
  refine J.seq ?_
  refine J.seq ?_
  refine J.region ?_
  first | refine o_q (q_mvv (v := .bool _) rfl) ?_ | refine o_q (q_mv) ?_
  refine JL.nil ?_
  refine J.condF rfl rfl ?_
  refine J.skip ?_
  refine J.seq ?_
  refine J.seq ?_
  refine J.region ?_
  first | refine o_q (q_mvv (v := .bool _) rfl) ?_ | refine o_q (q_mv) ?_
  refine JL.nil ?_
  refine J.condF rfl rfl ?_
  refine J.skip ?_
  refine J.seq ?_
  refine J.seq ?_
  refine J.region ?_
  first | refine o_q (q_mvv (v := .int _ _) rfl) ?_ | refine o_q (q_mv) ?_
  first | refine o_q (q_mvv (v := .int _ _) rfl) ?_ | refine o_q (q_mv) ?_
  refine o_q (q_lss rfl rfl) ?_
  refine JL.nil ?_
  refine J.condD rfl (fun c3 => ?_) (fun c3 => ?_)
  ·
    refine J.seq ?_
    refine J.region ?_
    refine o_q (q_as) ?_
    refine JL.nil ?_
    refine J.ret ?_
    refine ret_ok (fn := Try.f73) rfl (.tmp rfl .nil) ?_
    show Value.int _ _ = Value.int _ (cmp3 a b)
    unfold cmp3
    rw [if_pos c3]
  ·
    refine J.skip ?_
    refine J.seq ?_
    refine J.seq ?_
    refine J.region ?_
    first | refine o_q (q_mvv (v := .int _ _) rfl) ?_ | refine o_q (q_mv) ?_
    first | refine o_q (q_mvv (v := .int _ _) rfl) ?_ | refine o_q (q_mv) ?_
    refine o_q (q_gtr rfl rfl) ?_
    refine JL.nil ?_
    refine J.condD rfl (fun c4 => ?_) (fun c4 => ?_)
    ·
      refine J.seq ?_
      refine J.region ?_
      refine o_q (q_as) ?_
      refine JL.nil ?_
      refine J.ret ?_
      refine ret_ok (fn := Try.f73) rfl (.tmp rfl .nil) ?_
      show Value.int _ _ = Value.int _ (cmp3 a b)
      unfold cmp3
      rw [if_neg c3, if_pos c4]
    ·
      refine J.skip ?_
      refine J.seq ?_
      refine J.region ?_
      refine o_q (q_as) ?_
      refine JL.nil ?_
      refine J.ret ?_
      refine ret_ok (fn := Try.f73) rfl (.tmp rfl .nil) ?_
      show Value.int _ _ = Value.int _ (cmp3 a b)
      unfold cmp3
      rw [if_neg c3, if_neg c4]
theorem nanu_fn {h : Heap} {a : Int} :
    Fn Try.prog 84 #[.int .u32 a] h fun r _ => r = .bool false := by
  refine Fn.intro (args := [_]) Try.func84 rfl rfl (Nat.le_of_ble_eq_true rfl) fun w => ?_
  refine J.seq ?_
  refine J.region ?_
  refine o_q (q_as) ?_
  refine JL.nil ?_
  refine J.seq ?_
  refine J.region ?_
  first | refine o_q (q_mvv (v := .int _ _) rfl) ?_ | refine o_q (q_mv) ?_
  first | refine o_q (q_mvv (v := .int _ _) rfl) ?_ | refine o_q (q_mv) ?_
  refine o_q (q_neq rfl rfl) ?_
  first | refine o_q (q_asv (v := .bool _) rfl) ?_ | refine o_q (q_as) ?_
  refine JL.nil ?_
  refine J.ret ?_
  exact ret_ok (fn := Try.f84) rfl (.tmp rfl .nil) (congrArg Value.bool (decide_eq_false (by omega)))
theorem cmpu_fn {h : Heap} {a b : Int} :
    Fn Try.prog 78 #[.int .u32 a, .int .u32 b] h fun r _ => r = .int .i64 (cmp3 a b) := by
  refine Fn.intro (args := [_, _]) Try.func78 rfl rfl (Nat.le_of_ble_eq_true rfl) fun w => ?_
  refine J.seq ?_
  refine J.region ?_
  refine o_q (q_as) ?_
  refine JL.nil ?_
  refine J.seq ?_
  refine J.region ?_
  first | refine o_q (q_mvv (v := .int _ _) rfl) ?_ | refine o_q (q_mv) ?_
  refine o_call nanu_fn (fun v1 hv1 sv1 ev1 => ?_)
  subst ev1
  first | refine o_q (q_asv (v := .bool _) rfl) ?_ | refine o_q (q_as) ?_
  refine JL.nil ?_
  refine J.seq ?_
  refine J.region ?_
  first | refine o_q (q_mvv (v := .int _ _) rfl) ?_ | refine o_q (q_mv) ?_
  refine o_call nanu_fn (fun v2 hv2 sv2 ev2 => ?_)
  subst ev2
  first | refine o_q (q_asv (v := .bool _) rfl) ?_ | refine o_q (q_as) ?_
  refine JL.nil ?_
  refine J.seq ?_
  refine J.seq ?_
  refine J.region ?_
  first | refine o_q (q_mvv (v := .bool _) rfl) ?_ | refine o_q (q_mv) ?_
  refine JL.nil ?_
  refine J.condF rfl rfl ?_
  refine J.skip ?_
  refine J.seq ?_
  refine J.seq ?_
  refine J.region ?_
  first | refine o_q (q_mvv (v := .bool _) rfl) ?_ | refine o_q (q_mv) ?_
  refine JL.nil ?_
  refine J.condF rfl rfl ?_
  refine J.skip ?_
  refine J.seq ?_
  refine J.seq ?_
  refine J.region ?_
  first | refine o_q (q_mvv (v := .int _ _) rfl) ?_ | refine o_q (q_mv) ?_
  first | refine o_q (q_mvv (v := .int _ _) rfl) ?_ | refine o_q (q_mv) ?_
  refine o_q (q_lss rfl rfl) ?_
  refine JL.nil ?_
  refine J.condD rfl (fun c3 => ?_) (fun c3 => ?_)
  ·
    refine J.seq ?_
    refine J.region ?_
    refine o_q (q_as) ?_
    refine JL.nil ?_
    refine J.ret ?_
    refine ret_ok (fn := Try.f78) rfl (.tmp rfl .nil) ?_
    show Value.int _ _ = Value.int _ (cmp3 a b)
    unfold cmp3
    rw [if_pos c3]
  ·
    refine J.skip ?_
    refine J.seq ?_
    refine J.seq ?_
    refine J.region ?_
    first | refine o_q (q_mvv (v := .int _ _) rfl) ?_ | refine o_q (q_mv) ?_
    first | refine o_q (q_mvv (v := .int _ _) rfl) ?_ | refine o_q (q_mv) ?_
    refine o_q (q_gtr rfl rfl) ?_
    refine JL.nil ?_
    refine J.condD rfl (fun c4 => ?_) (fun c4 => ?_)
    ·
      refine J.seq ?_
      refine J.region ?_
      refine o_q (q_as) ?_
      refine JL.nil ?_
      refine J.ret ?_
      refine ret_ok (fn := Try.f78) rfl (.tmp rfl .nil) ?_
      show Value.int _ _ = Value.int _ (cmp3 a b)
      unfold cmp3
      rw [if_neg c3, if_pos c4]
    ·
      refine J.skip ?_
      refine J.seq ?_
      refine J.region ?_
      refine o_q (q_as) ?_
      refine JL.nil ?_
      refine J.ret ?_
      refine ret_ok (fn := Try.f78) rfl (.tmp rfl .nil) ?_
      show Value.int _ _ = Value.int _ (cmp3 a b)
      unfold cmp3
      rw [if_neg c3, if_neg c4]
theorem add32_fn {h : Heap} {x y c : Nat} (hx : x < 4294967296) (hy : y < 4294967296) (hc : c < 4294967296) :
    Fn Try.prog 77 #[.int .u32 (x : Int), .int .u32 (y : Int), .int .u32 (c : Int)] h fun r _ => r = .tuple ⟨[.int .u32 (((x + y + c) % 4294967296 : Nat) : Int), .int .u32 (((x + y + c) / 4294967296 : Nat) : Int)]⟩ := by
  refine Fn.intro (args := [_, _, _]) Try.func77 rfl rfl (Nat.le_of_ble_eq_true rfl) fun w => ?_
  refine J.seq ?_
  refine J.region ?_
  refine o_q (q_as) ?_
  refine o_q (q_as) ?_
  refine JL.nil ?_
  refine J.seq ?_
  refine J.region ?_
  first | refine o_q (q_mvv (v := .int _ _) rfl) ?_ | refine o_q (q_mv) ?_
  refine o_q (q_cv (c := (x : Int)) rfl (wu64 (by omega))) ?_
  first | refine o_q (q_mvv (v := .int _ _) rfl) ?_ | refine o_q (q_mv) ?_
  refine o_q (q_cv (c := (y : Int)) rfl (wu64 (by omega))) ?_
  refine o_q (q_add (c := ((x + y : Nat) : Int)) rfl rfl (by rw [wu64 (by omega)]; omega)) ?_
  first | refine o_q (q_mvv (v := .int _ _) rfl) ?_ | refine o_q (q_mv) ?_
  refine o_q (q_cv (c := (c : Int)) rfl (wu64 (by omega))) ?_
  refine o_q (q_add (c := ((x + y + c : Nat) : Int)) rfl rfl (by rw [wu64 (by omega)]; omega)) ?_
  first | refine o_q (q_asv (v := .int _ _) rfl) ?_ | refine o_q (q_as) ?_
  refine JL.nil ?_
  refine J.seq ?_
  refine J.region ?_
  first | refine o_q (q_mvv (v := .int _ _) rfl) ?_ | refine o_q (q_mv) ?_
  refine o_q (q_cv (c := (((x + y + c) % 4294967296 : Nat) : Int)) rfl (by rw [IntKind.wrap_u32]; omega)) ?_
  first | refine o_q (q_asv (v := .int _ _) rfl) ?_ | refine o_q (q_as) ?_
  refine JL.nil ?_
  refine J.seq ?_
  refine J.region ?_
  first | refine o_q (q_mvv (v := .int _ _) rfl) ?_ | refine o_q (q_mv) ?_
  refine o_q (q_shr (c := (((x + y + c) / 4294967296 : Nat) : Int)) rfl rfl (by decide) (by simp only [IntKind.bits]; exact fd32 _)) ?_
  refine o_q (q_cv (c := (((x + y + c) / 4294967296 : Nat) : Int)) rfl (wu32 (by omega))) ?_
  first | refine o_q (q_asv (v := .int _ _) rfl) ?_ | refine o_q (q_as) ?_
  refine JL.nil ?_
  refine J.ret ?_
  exact ret_ok (fn := Try.f77) rfl (.tmp rfl (.tmp rfl .nil)) rfl
theorem fd31 (n : Nat) : Int.fdiv (n : Int) 2147483648 = ((n / 2147483648 : Nat) : Int) := by
  rw [Int.fdiv_eq_ediv_of_nonneg _ (by decide)]; rfl
theorem sub32_fn {h : Heap} {x y c : Nat} (hx : x < 4294967296) (hy : y < 4294967296) (hc : c ≤ 1) :
    Fn Try.prog 79 #[.int .u32 (x : Int), .int .u32 (y : Int), .int .u32 (c : Int)] h fun r _ => r = .tuple ⟨[.int .u32 (((x + 4294967296 * 2 - y - c) % 4294967296 : Nat) : Int), .int .u32 ((if x < y + c then 1 else 0 : Nat) : Int)]⟩ := by
  obtain ⟨d, hd⟩ : ∃ d, (x + 4294967296 * 2 - y - c) % 4294967296 = d := ⟨_, rfl⟩
  have hdl : d < 4294967296 := by omega
  have hbr := borrow hx hy hdl hc hd
  rw [hd]
  have p1 : x ^^^ y < 4294967296 := Nat.xor_lt_two_pow (n := 32) hx hy
  have p2 : 4294967295 ^^^ x < 4294967296 := Nat.xor_lt_two_pow (n := 32) (by decide) hx
  have p3 : 4294967295 ^^^ (x ^^^ y) < 4294967296 := Nat.xor_lt_two_pow (n := 32) (by decide) p1
  have p4 : (4294967295 ^^^ x) &&& y < 4294967296 := Nat.and_lt_two_pow (n := 32) _ hy
  have p5 : (4294967295 ^^^ (x ^^^ y)) &&& d < 4294967296 := Nat.and_lt_two_pow (n := 32) _ hdl
  refine Fn.intro (args := [_, _, _]) Try.func79 rfl rfl (Nat.le_of_ble_eq_true rfl) fun w => ?_
  refine J.seq ?_
  refine J.region ?_
  refine o_q (q_as) ?_
  refine o_q (q_as) ?_
  refine JL.nil ?_
  refine J.seq ?_
  refine J.region ?_
  first | refine o_q (q_mvv (v := .int _ _) rfl) ?_ | refine o_q (q_mv) ?_
  first | refine o_q (q_mvv (v := .int _ _) rfl) ?_ | refine o_q (q_mv) ?_
  refine o_q (q_sub (c := (((x + 4294967296 - y) % 4294967296 : Nat) : Int)) rfl rfl (by rw [IntKind.wrap_u32]; omega)) ?_
  first | refine o_q (q_mvv (v := .int _ _) rfl) ?_ | refine o_q (q_mv) ?_
  refine o_q (q_sub (c := (d : Int)) rfl rfl (by rw [IntKind.wrap_u32]; omega)) ?_
  first | refine o_q (q_asv (v := .int _ _) rfl) ?_ | refine o_q (q_as) ?_
  refine JL.nil ?_
  refine J.seq ?_
  refine J.region ?_
  first | refine o_q (q_mvv (v := .int _ _) rfl) ?_ | refine o_q (q_mv) ?_
  refine o_q (q_com32 rfl hx) ?_
  first | refine o_q (q_mvv (v := .int _ _) rfl) ?_ | refine o_q (q_mv) ?_
  refine o_q (q_and32 rfl rfl p2 hy) ?_
  first | refine o_q (q_mvv (v := .int _ _) rfl) ?_ | refine o_q (q_mv) ?_
  first | refine o_q (q_mvv (v := .int _ _) rfl) ?_ | refine o_q (q_mv) ?_
  refine o_q (q_xor32 rfl rfl hx hy) ?_
  refine o_q (q_com32 rfl p1) ?_
  first | refine o_q (q_mvv (v := .int _ _) rfl) ?_ | refine o_q (q_mv) ?_
  refine o_q (q_and32 rfl rfl p3 hdl) ?_
  refine o_q (q_or32 rfl rfl p4 p5) ?_
  refine o_q (q_shr (c := ((if x < y + c then 1 else 0 : Nat) : Int)) rfl rfl (by decide) (by rw [← hbr]; simp only [IntKind.bits]; exact fd31 _)) ?_
  first | refine o_q (q_asv (v := .int _ _) rfl) ?_ | refine o_q (q_as) ?_
  refine JL.nil ?_
  refine J.ret ?_
  exact ret_ok (fn := Try.f79) rfl (.tmp rfl (.tmp rfl .nil)) rfl
end Go.Z
end
section
set_option linter.unusedSimpArgs false
set_option linter.unusedVariables false
/- The functions of package integer, walked: comparison, sums, differences. -/
set_option linter.unusedSimpArgs false
set_option linter.unusedVariables false
namespace Go.Z
open Go Go.RowKit Go.Proofs
theorem cmp3_zero {a b : Int} : cmp3 a b = 0 ↔ a = b := by unfold cmp3; split <;> (try split) <;> omega
theorem cmp3_neg {a b : Int} : cmp3 a b < 0 ↔ a < b := by unfold cmp3; split <;> (try split) <;> omega
theorem cmp3_lt {a b : Int} (h : a < b) : cmp3 a b = -1 := by unfold cmp3; rw [if_pos h]
theorem cmp3_gt {a b : Int} (h : b < a) : cmp3 a b = 1 := by unfold cmp3; rw [if_neg (by omega), if_pos h]
theorem setN_u32s (m : List Nat) : ∀ (l : List Nat) (o : Nat), Bd l → Bd m → ∃ out, setN (u32s l) o (u32s m) = u32s out ∧ out.length = l.length ∧ Bd out := by
  induction m with
  | nil => exact fun l o hl _ => ⟨l, rfl, rfl, hl⟩
  | cons x m ih =>
    intro l o hl hm
    obtain ⟨out, h1, h2, h3⟩ := ih (l.set o x) (o + 1) (hl.set hm.head) hm.tail
    refine ⟨out, ?_, by rw [h2, List.length_set], h3⟩
    rw [← h1, ← u32s_set]; rfl
theorem val_last {out : List Nat} {n d : Nat} (hl : out.length = n + 1) : val (out.set n d) = val (out.take n) + Bs ^ n * d := by
  have h1 := val_take_succ (out.set n d) n
  rw [List.take_of_length_le (by rw [List.length_set]; omega), List.take_set_of_le (Nat.le_refl n)] at h1
  rw [h1]; simp [List.getElem?_set_self (show n < out.length by omega)]
theorem compare_fn {h : Heap} {va vb : Value} {x y : Nat} (ha : MagAt h va (limbs x)) (hb : MagAt h vb (limbs y)) (la : (limbs x).length ≤ 1000001) (lb : (limbs y).length ≤ 1000001) :
    Fn Try.prog 68 #[va, vb] h fun r _ => r = .int .i64 (cmp3 (x : Int) (y : Int)) := by
  obtain ⟨pa, ca, rfl, hca⟩ := ha.out
  obtain ⟨pb, cb, rfl, hcb⟩ := hb.out
  refine Fn.intro (args := [_, _]) Try.func68 rfl rfl (Nat.le_of_ble_eq_true rfl) fun w => ?_
  refine J.seq ?_
  refine J.region ?_
  refine o_q (q_as) ?_
  refine JL.nil ?_
  refine J.seq ?_
  refine J.seq ?_
  refine J.region ?_
  first | refine o_q (q_mvv (v := .slice _ _ _) rfl) ?_ | refine o_q (q_mv) ?_
  refine o_q (q_len rfl) ?_
  first | refine o_q (q_mvv (v := .slice _ _ _) rfl) ?_ | refine o_q (q_mv) ?_
  refine o_q (q_len rfl) ?_
  refine o_call cmpi_fn (fun v1 hv1 sv1 ev1 => ?_)
  subst ev1
  first | refine o_q (q_asv (v := .int _ _) rfl) ?_ | refine o_q (q_as) ?_
  refine JL.nil ?_
  refine J.seq ?_
  refine J.region ?_
  first | refine o_q (q_mvv (v := .int _ _) rfl) ?_ | refine o_q (q_mv) ?_
  refine o_q (q_neq rfl rfl) ?_
  refine JL.nil ?_
  refine J.condD rfl (fun c0 => ?_) (fun c0 => ?_)
  ·
    refine J.seq ?_
    refine J.region ?_
    first | refine o_q (q_mvv (v := .int _ _) rfl) ?_ | refine o_q (q_mv) ?_
    first | refine o_q (q_asv (v := .int _ _) rfl) ?_ | refine o_q (q_as) ?_
    refine JL.nil ?_
    refine J.ret ?_
    refine ret_ok (fn := Try.f68) rfl (.tmp rfl .nil) ?_
    refine congrArg (Value.int .i64) ?_
    rcases Nat.lt_trichotomy (limbs x).length (limbs y).length with h2 | h2 | h2
    · have := limbs_len_lt h2; rw [cmp3_lt (by omega), cmp3_lt (by omega)]
    · exact absurd (cmp3_zero.2 (by omega)) c0
    · have := limbs_len_lt h2; rw [cmp3_gt (by omega), cmp3_gt (by omega)]
  ·
    have heq : (limbs x).length = (limbs y).length := by
      have := cmp3_zero.1 (Classical.not_not.1 c0); omega
    refine J.skip ?_
    -- cut: kept [], said []
    first | refine J.cutK (α := Unit) (fun _ h' L' => x = y ∧ [] = L') [] trivial (fun _ => []) ?_ ?_ | refine J.cutK (α := Unit) (fun _ h' L' => x = y ∧ [] = L') [] trivial (fun _ => []) ?_ ?_
    ·
      refine J.seq ?_
      refine J.region ?_
      first | refine o_q (q_mvv (v := .slice _ _ _) rfl) ?_ | refine o_q (q_mv) ?_
      refine o_q (q_len rfl) ?_
      refine o_q (q_sub (c := ((limbs x).length : Int) - 1) rfl rfl (wi64 (by omega))) ?_
      first | refine o_q (q_asv (v := .int _ _) rfl) ?_ | refine o_q (q_as) ?_
      refine JL.nil ?_
      refine J.block ?_
      -- loop 0: kept [0, 1], said [6]
      first | refine J.loopK (α := Int) (fun i h' L' => -1 ≤ i ∧ i < ((limbs x).length : Int) ∧ (limbs x).drop (i + 1).toNat = (limbs y).drop (i + 1).toNat ∧ [] = L') [(0, .slice _ _ _), (1, .slice _ _ _)] ⟨rfl, rfl, trivial⟩ (fun i => [(6, .int .i64 i)]) (fun i => (i + 1).toNat) (((limbs x).length : Int) - 1) ⟨by omega, by omega, by rw [show (((limbs x).length : Int) - 1 + 1).toNat = (limbs x).length by omega, List.drop_length, heq, List.drop_length], rfl⟩ ⟨rfl, trivial⟩ ?_ | refine J.loopK (α := Int) (fun i h' L' => -1 ≤ i ∧ i < ((limbs x).length : Int) ∧ (limbs x).drop (i + 1).toNat = (limbs y).drop (i + 1).toNat ∧ [] = L') [(0, _), (1, _)] ⟨rfl, rfl, trivial⟩ (fun i => [(6, .int .i64 i)]) (fun i => (i + 1).toNat) (((limbs x).length : Int) - 1) ⟨by omega, by omega, by rw [show (((limbs x).length : Int) - 1 + 1).toNat = (limbs x).length by omega, List.drop_length, heq, List.drop_length], rfl⟩ ⟨rfl, trivial⟩ ?_
      rintro i σ h1 L1 s1 ⟨hi0, hi1, hd, rfl⟩
      refine J.seq ?_
      refine J.seq ?_
      refine J.region ?_
      first | refine o_q (q_mvv (v := .int _ _) rfl) ?_ | refine o_q (q_mv) ?_
      refine o_q (q_geq rfl rfl) ?_
      refine JL.nil ?_
      refine J.condD rfl (fun c1 => ?_) (fun c1 => ?_)
      ·
        obtain ⟨j, rfl⟩ := Int.eq_ofNat_of_zero_le c1
        rw [show ((j : Int) + 1).toNat = j + 1 by omega] at hd
        refine J.skip ?_
        refine J.seq ?_
        refine J.block ?_
        refine J.seq ?_
        refine J.drawA [] ?_
        first | refine JD.calc 0 (by kernel_rfl) rfl trivial ss_sub (q_mvv (v := .slice _ _ _) rfl) ?_ | refine JD.calc 0 (by kernel_rfl) rfl trivial ss_sub (q_mv) ?_
        first | refine JD.calc 1 (by kernel_rfl) rfl trivial ss_sub (q_mvv (v := .int _ _) rfl) ?_ | refine JD.calc 1 (by kernel_rfl) rfl trivial ss_sub (q_mv) ?_
        obtain ⟨ku, ou, u, rfl, hu, lu, hcu⟩ := MagAt.limb (j := j) ha (by omega)
        refine JD.calc 2 (by kernel_rfl) rfl trivial ss_sub (q_ia rfl rfl (by omega)) ?_
        refine JD.load 3 (by kernel_rfl) rfl trivial (q_ldf rfl hcu) ?_
        first | refine JD.calc 4 (by kernel_rfl) rfl trivial ss_sub (q_mvv (v := .slice _ _ _) rfl) ?_ | refine JD.calc 4 (by kernel_rfl) rfl trivial ss_sub (q_mv) ?_
        first | refine JD.calc 5 (by kernel_rfl) rfl trivial ss_sub (q_mvv (v := .int _ _) rfl) ?_ | refine JD.calc 5 (by kernel_rfl) rfl trivial ss_sub (q_mv) ?_
        obtain ⟨kw, ow, w, rfl, hw, lw, hcw⟩ := MagAt.limb (j := j) hb (by omega)
        refine JD.calc 6 (by kernel_rfl) rfl trivial ss_sub (q_ia rfl rfl (by omega)) ?_
        refine JD.load 7 (by kernel_rfl) rfl trivial (q_ldf rfl hcw) ?_
        refine JD.one 8 (by kernel_rfl) ?_
        refine JX.eff rfl rfl trivial ?_
        refine o_call cmpu_fn (fun v2 hv2 sv2 ev2 => ?_)
        subst ev2
        refine JL.nil ⟨rfl, inferInstance, inferInstance, ?_⟩
        first | refine JD.calc 9 (by kernel_rfl) rfl trivial ss_sub (q_asv (v := .int _ _) rfl) ?_ | refine JD.calc 9 (by kernel_rfl) rfl trivial ss_sub (q_as) ?_
        refine JD.done (by kernel_rfl) ?_ _
        refine J.seq ?_
        refine J.region ?_
        first | refine o_q (q_mvv (v := .int _ _) rfl) ?_ | refine o_q (q_mv) ?_
        refine o_q (q_neq rfl rfl) ?_
        refine JL.nil ?_
        refine J.condD rfl (fun c2 => ?_) (fun c2 => ?_)
        ·
          refine J.seq ?_
          refine J.region ?_
          first | refine o_q (q_mvv (v := .int _ _) rfl) ?_ | refine o_q (q_mv) ?_
          first | refine o_q (q_asv (v := .int _ _) rfl) ?_ | refine o_q (q_as) ?_
          refine JL.nil ?_
          refine J.ret ?_
          refine ret_ok (fn := Try.f68) rfl (.tmp rfl .nil) ?_
          refine congrArg (Value.int .i64) ?_
          have e1 := fun h => val_lt_of (bd_limbs x) (bd_limbs y) hd hu hw h
          have e2 := fun h => val_lt_of (bd_limbs y) (bd_limbs x) hd.symm hw hu h
          rw [val_limbs, val_limbs] at e1 e2
          rcases Nat.lt_trichotomy u w with h2 | h2 | h2
          · have := e1 h2; rw [cmp3_lt (by omega), cmp3_lt (by omega)]
          · exact absurd (cmp3_zero.2 (by omega)) c2
          · have := e2 h2; rw [cmp3_gt (by omega), cmp3_gt (by omega)]
        ·
          have huw := cmp3_zero.1 (Classical.not_not.1 c2)
          refine J.skip ?_
          refine J.region ?_
          first | refine o_q (q_mvv (v := .int _ _) rfl) ?_ | refine o_q (q_mv) ?_
          refine o_q (q_sub (c := (j : Int) - 1) rfl rfl (wi64 (by omega))) ?_
          first | refine o_q (q_asv (v := .int _ _) rfl) ?_ | refine o_q (q_as) ?_
          refine JL.nil ?_
          exact ⟨(j : Int) - 1, rfl, ⟨rfl, rfl, trivial⟩, ⟨rfl, trivial⟩, ⟨by omega, by omega, by
            rw [show ((j : Int) - 1 + 1).toNat = j by omega, List.drop_eq_getElem_cons (l := limbs x) (i := j) (by omega), List.drop_eq_getElem_cons (l := limbs y) (i := j) (by omega), hd]
            obtain ⟨_, e1⟩ := List.getElem?_eq_some_iff.1 hu
            obtain ⟨_, e2⟩ := List.getElem?_eq_some_iff.1 hw
            rw [e1, e2, show u = w by omega], rfl⟩, by omega, inferInstance⟩
      ·
        refine J.exit ?_
        exact ⟨(), rfl, trivial, trivial, ⟨limbs_inj (by simpa [show (i + 1).toNat = 0 by omega] using hd), rfl⟩, inferInstance⟩
    ·
      rintro _ σ3 h3 L3 s3 ⟨rfl, rfl⟩
      refine J.seq ?_
      refine J.region ?_
      refine o_q (q_as) ?_
      refine JL.nil ?_
      refine J.ret ?_
      exact ret_ok (fn := Try.f68) rfl (.tmp rfl .nil) (congrArg (Value.int .i64) (cmp3_zero.2 rfl).symm)
theorem cmp_fn {h : Heap} {va vb : Value} {x y : Int} (ha : IntAt h va x) (hb : IntAt h vb y) (fa : Fit x) (fb : Fit y) :
    Fn Try.prog 76 #[va, vb] h fun r _ => r = .int .i64 (cmp3 x y) := by
  obtain ⟨pa, ca, rfl, hca, ha⟩ := ha.out
  obtain ⟨pb, cb, rfl, hcb, hb⟩ := hb.out
  refine Fn.intro (args := [_, _]) Try.func76 rfl rfl (Nat.le_of_ble_eq_true rfl) fun w => ?_
  refine J.seq ?_
  refine J.region ?_
  first | refine o_bx (v := .agg _) rfl rfl (fun b2 => ?_) | refine o_bx rfl rfl (fun b2 => ?_)
  first | refine o_bx (v := .agg _) rfl rfl (fun b3 => ?_) | refine o_bx rfl rfl (fun b3 => ?_)
  refine o_q (q_as) ?_
  refine JL.nil ?_
  refine J.seq ?_
  refine J.block ?_
  refine J.seq ?_
  rcases (show x < 0 ∨ 0 ≤ x by omega) with hx | hx
  rcases (show y < 0 ∨ 0 ≤ y by omega) with hy | hy
  ·
    refine J.region ?_
    refine o_q (q_fa rfl) ?_
    refine o_q (q_ld rfl inferInstance rfl) ?_
    first | refine o_q (q_mvv (v := .bool _) rfl) ?_ | refine o_q (q_mv) ?_
    refine JL.guardT rfl rfl (decide_eq_true hx) ?_
    refine o_q (q_fa rfl) ?_
    refine JL.guardT rfl rfl (decide_eq_true hx) ?_
    refine o_q (q_ld rfl inferInstance rfl) ?_
    refine JL.guardT rfl rfl (decide_eq_true hx) ?_
    refine o_q (q_not rfl) ?_
    first | refine o_q (q_pickTv (v := .bool _) rfl (decide_eq_true hx) rfl) ?_ | refine o_q (q_pickT rfl (decide_eq_true hx)) ?_
    first | refine o_q (q_asv (v := .bool _) rfl) ?_ | refine o_q (q_as) ?_
    refine JL.nil ?_
    refine J.condF rfl (by rw [decide_eq_true hy] <;> rfl) ?_
    refine J.seq ?_
    refine J.region ?_
    refine o_q (q_fa rfl) ?_
    refine o_q (q_ld rfl inferInstance rfl) ?_
    first | refine o_q (q_mvv (v := .bool _) rfl) ?_ | refine o_q (q_mv) ?_
    refine JL.guardT rfl rfl (decide_eq_true hy) ?_
    refine o_q (q_fa rfl) ?_
    refine JL.guardT rfl rfl (decide_eq_true hy) ?_
    refine o_q (q_ld rfl inferInstance rfl) ?_
    refine JL.guardT rfl rfl (decide_eq_true hy) ?_
    refine o_q (q_not rfl) ?_
    first | refine o_q (q_pickTv (v := .bool _) rfl (decide_eq_true hy) rfl) ?_ | refine o_q (q_pickT rfl (decide_eq_true hy)) ?_
    first | refine o_q (q_asv (v := .bool _) rfl) ?_ | refine o_q (q_as) ?_
    refine JL.nil ?_
    refine J.condF rfl (by rw [decide_eq_true hx] <;> rfl) ?_
    refine J.seq ?_
    refine J.region ?_
    refine o_q (q_fa rfl) ?_
    refine o_q (q_ld rfl inferInstance rfl) ?_
    first | refine o_q (q_asv (v := .bool _) rfl) ?_ | refine o_q (q_as) ?_
    refine JL.nil ?_
    refine J.condT rfl (decide_eq_true hx) ?_
    refine J.seq ?_
    refine J.region ?_
    refine o_q (q_fa rfl) ?_
    refine o_q (q_ld rfl inferInstance rfl) ?_
    refine o_q (q_fa rfl) ?_
    refine o_q (q_ld rfl inferInstance rfl) ?_
    refine o_call (compare_fn hb ha (Nat.le_trans fb (by decide)) (Nat.le_trans fa (by decide))) (fun v1 hv1 sv1 ev1 => ?_)
    subst ev1
    first | refine o_q (q_asv (v := .int _ _) rfl) ?_ | refine o_q (q_as) ?_
    refine JL.nil ?_
    refine J.ret ?_
    refine ret_ok (fn := Try.f76) rfl (.tmp rfl .nil) ?_
    refine congrArg (Value.int .i64) ?_
    simp only [cmp3] at *
    split <;> (try split) <;> (try split) <;> (try split) <;> omega
  ·
    refine J.region ?_
    refine o_q (q_fa rfl) ?_
    refine o_q (q_ld rfl inferInstance rfl) ?_
    first | refine o_q (q_mvv (v := .bool _) rfl) ?_ | refine o_q (q_mv) ?_
    refine JL.guardT rfl rfl (decide_eq_true hx) ?_
    refine o_q (q_fa rfl) ?_
    refine JL.guardT rfl rfl (decide_eq_true hx) ?_
    refine o_q (q_ld rfl inferInstance rfl) ?_
    refine JL.guardT rfl rfl (decide_eq_true hx) ?_
    refine o_q (q_not rfl) ?_
    first | refine o_q (q_pickTv (v := .bool _) rfl (decide_eq_true hx) rfl) ?_ | refine o_q (q_pickT rfl (decide_eq_true hx)) ?_
    first | refine o_q (q_asv (v := .bool _) rfl) ?_ | refine o_q (q_as) ?_
    refine JL.nil ?_
    refine J.condT rfl (by rw [decide_eq_false (show ¬ y < 0 by omega)] <;> rfl) ?_
    refine J.seq ?_
    refine J.region ?_
    refine o_q (q_as) ?_
    refine JL.nil ?_
    refine J.ret ?_
    refine ret_ok (fn := Try.f76) rfl (.tmp rfl .nil) ?_
    refine congrArg (Value.int .i64) ?_
    simp only [cmp3] at *
    split <;> (try split) <;> (try split) <;> (try split) <;> omega
  ·
    refine J.region ?_
    refine o_q (q_fa rfl) ?_
    refine o_q (q_ld rfl inferInstance rfl) ?_
    first | refine o_q (q_mvv (v := .bool _) rfl) ?_ | refine o_q (q_mv) ?_
    refine JL.guardF rfl rfl (decide_eq_false (show ¬ x < 0 by omega)) rfl ?_
    refine JL.guardF rfl rfl (decide_eq_false (show ¬ x < 0 by omega)) rfl ?_
    refine JL.guardF rfl rfl (decide_eq_false (show ¬ x < 0 by omega)) rfl ?_
    refine o_q (q_pickF rfl (decide_eq_false (show ¬ x < 0 by omega))) ?_
    first | refine o_q (q_asv (v := .bool _) rfl) ?_ | refine o_q (q_as) ?_
    refine JL.nil ?_
    refine J.condF rfl rfl ?_
    refine J.seq ?_
    rcases (show y < 0 ∨ 0 ≤ y by omega) with hy | hy
    ·
      refine J.region ?_
      refine o_q (q_fa rfl) ?_
      refine o_q (q_ld rfl inferInstance rfl) ?_
      first | refine o_q (q_mvv (v := .bool _) rfl) ?_ | refine o_q (q_mv) ?_
      refine JL.guardT rfl rfl (decide_eq_true hy) ?_
      refine o_q (q_fa rfl) ?_
      refine JL.guardT rfl rfl (decide_eq_true hy) ?_
      refine o_q (q_ld rfl inferInstance rfl) ?_
      refine JL.guardT rfl rfl (decide_eq_true hy) ?_
      refine o_q (q_not rfl) ?_
      first | refine o_q (q_pickTv (v := .bool _) rfl (decide_eq_true hy) rfl) ?_ | refine o_q (q_pickT rfl (decide_eq_true hy)) ?_
      first | refine o_q (q_asv (v := .bool _) rfl) ?_ | refine o_q (q_as) ?_
      refine JL.nil ?_
      refine J.condT rfl (by rw [decide_eq_false (show ¬ x < 0 by omega)] <;> rfl) ?_
      refine J.seq ?_
      refine J.region ?_
      refine o_q (q_as) ?_
      refine JL.nil ?_
      refine J.ret ?_
      refine ret_ok (fn := Try.f76) rfl (.tmp rfl .nil) ?_
      refine congrArg (Value.int .i64) ?_
      simp only [cmp3] at *
      split <;> (try split) <;> (try split) <;> (try split) <;> omega
    ·
      refine J.region ?_
      refine o_q (q_fa rfl) ?_
      refine o_q (q_ld rfl inferInstance rfl) ?_
      first | refine o_q (q_mvv (v := .bool _) rfl) ?_ | refine o_q (q_mv) ?_
      refine JL.guardF rfl rfl (decide_eq_false (show ¬ y < 0 by omega)) rfl ?_
      refine JL.guardF rfl rfl (decide_eq_false (show ¬ y < 0 by omega)) rfl ?_
      refine JL.guardF rfl rfl (decide_eq_false (show ¬ y < 0 by omega)) rfl ?_
      refine o_q (q_pickF rfl (decide_eq_false (show ¬ y < 0 by omega))) ?_
      first | refine o_q (q_asv (v := .bool _) rfl) ?_ | refine o_q (q_as) ?_
      refine JL.nil ?_
      refine J.condF rfl rfl ?_
      refine J.seq ?_
      refine J.region ?_
      refine o_q (q_fa rfl) ?_
      refine o_q (q_ld rfl inferInstance rfl) ?_
      first | refine o_q (q_asv (v := .bool _) rfl) ?_ | refine o_q (q_as) ?_
      refine JL.nil ?_
      refine J.condF rfl (decide_eq_false (show ¬ x < 0 by omega)) ?_
      refine J.skip ?_
      refine J.seq ?_
      refine J.region ?_
      refine o_q (q_fa rfl) ?_
      refine o_q (q_ld rfl inferInstance rfl) ?_
      refine o_q (q_fa rfl) ?_
      refine o_q (q_ld rfl inferInstance rfl) ?_
      refine o_call (compare_fn ha hb (Nat.le_trans fa (by decide)) (Nat.le_trans fb (by decide))) (fun v1 hv1 sv1 ev1 => ?_)
      subst ev1
      first | refine o_q (q_asv (v := .int _ _) rfl) ?_ | refine o_q (q_as) ?_
      refine JL.nil ?_
      refine J.ret ?_
      refine ret_ok (fn := Try.f76) rfl (.tmp rfl .nil) ?_
      refine congrArg (Value.int .i64) ?_
      simp only [cmp3] at *
      split <;> (try split) <;> (try split) <;> (try split) <;> omega
theorem plus_fn {h : Heap} {va vb : Value} {a b : List Nat} (ha : MagAt h va a) (hb : MagAt h vb b) (la : a.length ≤ 1000001) (lb : b.length ≤ 1000001) :
    Fn Try.prog 67 #[va, vb] h fun r h' => ∃ l, MagAt h' r l ∧ val l = val a + val b ∧ l.length ≤ max a.length b.length + 1 := by
  obtain ⟨pa, ca, rfl, hca⟩ := ha.out
  obtain ⟨pb, cb, rfl, hcb⟩ := hb.out
  refine Fn.intro (args := [_, _]) Try.func67 rfl rfl (Nat.le_of_ble_eq_true rfl) fun w => ?_
  refine J.seq ?_
  refine J.region ?_
  refine o_q (q_as) ?_
  refine JL.nil ?_
  -- cut: kept [], said [0, 1]
  first | refine J.cutK (α := List Nat × List Nat × Value × Value) (fun ⟨A, B, vA, vB⟩ h' L' => MagAt h' vA A ∧ MagAt h' vB B ∧ val A + val B = val a + val b ∧ B.length ≤ A.length ∧ A.length ≤ max a.length b.length ∧ [] = L') [] trivial (fun ⟨A, B, vA, vB⟩ => [(0, vA), (1, vB)]) ?_ ?_ | refine J.cutK (α := List Nat × List Nat × Value × Value) (fun ⟨A, B, vA, vB⟩ h' L' => MagAt h' vA A ∧ MagAt h' vB B ∧ val A + val B = val a + val b ∧ B.length ≤ A.length ∧ A.length ≤ max a.length b.length ∧ [] = L') [] trivial (fun ⟨A, B, vA, vB⟩ => [(0, vA), (1, vB)]) ?_ ?_
  ·
    refine J.seq ?_
    refine J.region ?_
    first | refine o_q (q_mvv (v := .slice _ _ _) rfl) ?_ | refine o_q (q_mv) ?_
    refine o_q (q_len rfl) ?_
    first | refine o_q (q_mvv (v := .slice _ _ _) rfl) ?_ | refine o_q (q_mv) ?_
    refine o_q (q_len rfl) ?_
    refine o_q (q_lss rfl rfl) ?_
    refine JL.nil ?_
    refine J.condD rfl (fun c0 => ?_) (fun c0 => ?_)
    ·
      refine J.region ?_
      first | refine o_q (q_mvv (v := .slice _ _ _) rfl) ?_ | refine o_q (q_mv) ?_
      first | refine o_q (q_mvv (v := .slice _ _ _) rfl) ?_ | refine o_q (q_mv) ?_
      first | refine o_q (q_asv (v := .slice _ _ _) rfl) ?_ | refine o_q (q_as) ?_
      first | refine o_q (q_asv (v := .slice _ _ _) rfl) ?_ | refine o_q (q_as) ?_
      refine JL.nil ?_
      first
        | exact ⟨(b, a, _, _), rfl, trivial, ⟨rfl, rfl, trivial⟩, ⟨hb, ha, by omega, by omega, by omega, rfl⟩, inferInstance⟩
        | exact ⟨(a, b, _, _), rfl, trivial, ⟨rfl, rfl, trivial⟩, ⟨ha, hb, by omega, by omega, by omega, rfl⟩, inferInstance⟩
    ·
      refine J.skip ?_
      first
        | exact ⟨(b, a, _, _), rfl, trivial, ⟨rfl, rfl, trivial⟩, ⟨hb, ha, by omega, by omega, by omega, rfl⟩, inferInstance⟩
        | exact ⟨(a, b, _, _), rfl, trivial, ⟨rfl, rfl, trivial⟩, ⟨ha, hb, by omega, by omega, by omega, rfl⟩, inferInstance⟩
  ·
    rintro ⟨A, B, vA, vB⟩ σ1 h1 L1 s1 ⟨hA, hB, hsum, hBA, hAm, rfl⟩
    obtain ⟨pA, cA, rfl, hcA⟩ := hA.out
    obtain ⟨pB, cB, rfl, hcB⟩ := hB.out
    refine J.seq ?_
    refine J.region ?_
    first | refine o_q (q_mvv (v := .slice _ _ _) rfl) ?_ | refine o_q (q_mv) ?_
    refine o_q (q_len rfl) ?_
    refine o_q (q_add rfl rfl (wi64 (by omega))) ?_
    refine o_mk (n := A.length + 1) (m := A.length + 1) rfl rfl (by omega) (by omega) (Nat.le_refl _) (by omega) (by omega) (fun b19 => ?_)
    first | refine o_q (q_asv (v := .slice _ _ _) rfl) ?_ | refine o_q (q_as) ?_
    refine JL.nil ?_
    refine J.seq ?_
    refine J.region ?_
    first | refine o_q (q_mvv (v := .slice _ _ _) rfl) ?_ | refine o_q (q_mv) ?_
    first | refine o_q (q_mvv (v := .slice _ _ _) rfl) ?_ | refine o_q (q_mv) ?_
    rw [flat1]
    obtain ⟨out0, ho1, ho2, ho3⟩ := setN_u32s A (List.replicate (A.length + 1) 0) 0 (Bd.rep0 _) hA.2
    rw [List.length_replicate] at ho2
    refine o_cp (m := A.length) (us := u32s A) rfl rfl inferInstance (src_fro hA.1 (u32s_plain _)) (by omega) (by rw [u32s_len, u32s_len, List.length_replicate]; omega) ?_
    rw [ho1]
    refine JL.nil ?_
    refine J.seq ?_
    refine J.region ?_
    refine o_q (q_as) ?_
    refine JL.nil ?_
    -- cut: kept [0, 5], said [6]
    first | refine J.cutK (α := Nat × List Nat) (fun ⟨cy, out⟩ h' L' => cy ≤ 1 ∧ out.length = A.length + 1 ∧ Bd out ∧ val (out.take A.length) + Bs ^ A.length * cy = val A + val B ∧ [(b19, row 78 (u32s out))] = L') [(0, .slice _ _ _), (5, .slice _ _ _)] ⟨rfl, rfl, trivial⟩ (fun ⟨cy, out⟩ => [(6, .int .u32 (cy : Int))]) ?_ ?_ | refine J.cutK (α := Nat × List Nat) (fun ⟨cy, out⟩ h' L' => cy ≤ 1 ∧ out.length = A.length + 1 ∧ Bd out ∧ val (out.take A.length) + Bs ^ A.length * cy = val A + val B ∧ [(b19, row 78 (u32s out))] = L') [(0, _), (5, _)] ⟨rfl, rfl, trivial⟩ (fun ⟨cy, out⟩ => [(6, .int .u32 (cy : Int))]) ?_ ?_
    ·
      refine J.seq ?_
      refine J.region ?_
      first | refine o_q (q_mvv (v := .slice _ _ _) rfl) ?_ | refine o_q (q_mv) ?_
      refine o_q (q_len rfl) ?_
      refine o_q (q_mv) ?_
      refine JL.nil ?_
      refine J.block ?_
      -- loop 0: kept [0, 1, 5, 24], said [6, 25]
      first | refine J.loopK (α := Nat × Nat × List Nat) (fun ⟨i, cy, out⟩ h' L' => i ≤ A.length ∧ cy ≤ 1 ∧ out.length = A.length + 1 ∧ Bd out ∧ val (out.take i) + Bs ^ i * cy = val (A.take i) + val (B.take i) ∧ [(b19, row 78 (u32s out))] = L') [(0, .slice _ _ _), (1, .slice _ _ _), (5, .slice _ _ _), (24, .int _ _)] ⟨rfl, rfl, rfl, rfl, trivial⟩ (fun ⟨i, cy, out⟩ => [(6, .int .u32 (cy : Int)), (25, .int .i64 (i : Int))]) (fun ⟨i, cy, out⟩ => A.length - i) ((0, 0, out0)) ⟨by omega, by omega, ho2, ho3, by simp [val], rfl⟩ ⟨rfl, rfl, trivial⟩ ?_ | refine J.loopK (α := Nat × Nat × List Nat) (fun ⟨i, cy, out⟩ h' L' => i ≤ A.length ∧ cy ≤ 1 ∧ out.length = A.length + 1 ∧ Bd out ∧ val (out.take i) + Bs ^ i * cy = val (A.take i) + val (B.take i) ∧ [(b19, row 78 (u32s out))] = L') [(0, _), (1, _), (5, _), (24, _)] ⟨rfl, rfl, rfl, rfl, trivial⟩ (fun ⟨i, cy, out⟩ => [(6, .int .u32 (cy : Int)), (25, .int .i64 (i : Int))]) (fun ⟨i, cy, out⟩ => A.length - i) ((0, 0, out0)) ⟨by omega, by omega, ho2, ho3, by simp [val], rfl⟩ ⟨rfl, rfl, trivial⟩ ?_
      rintro ⟨i, cy, out⟩ σ2 h2 L2 s2 ⟨hi, hcr, hol, hob, hv, rfl⟩
      refine J.seq ?_
      refine J.region ?_
      refine o_q (q_lss rfl rfl) ?_
      refine JL.nil ?_
      refine J.seq ?_
      refine J.condD rfl (fun c1 => ?_) (fun c1 => ?_)
      ·
        refine J.skip ?_
        refine J.seq ?_
        refine J.block ?_
        refine J.seq ?_
        refine J.region ?_
        first | refine o_q (q_mvv (v := .int _ _) rfl) ?_ | refine o_q (q_mv) ?_
        first | refine o_q (q_asv (v := .int _ _) rfl) ?_ | refine o_q (q_as) ?_
        refine JL.nil ?_
        refine J.seq ?_
        refine J.region ?_
        refine o_q (q_as) ?_
        refine JL.nil ?_
        -- cut: kept [0, 1, 5, 6, 7, 24, 25], said [8]
        first | refine J.cutK (α := Unit) (fun _ h' L' => B.getD i 0 < 4294967296 ∧ [(b19, row 78 (u32s out))] = L') [(0, .slice _ _ _), (1, .slice _ _ _), (5, .slice _ _ _), (6, .int _ _), (7, .int _ _), (24, .int _ _), (25, .int _ _)] ⟨rfl, rfl, rfl, rfl, rfl, rfl, rfl, trivial⟩ (fun _ => [(8, .int .u32 ((B.getD i 0 : Nat) : Int))]) ?_ ?_ | refine J.cutK (α := Unit) (fun _ h' L' => B.getD i 0 < 4294967296 ∧ [(b19, row 78 (u32s out))] = L') [(0, _), (1, _), (5, _), (6, _), (7, _), (24, _), (25, _)] ⟨rfl, rfl, rfl, rfl, rfl, rfl, rfl, trivial⟩ (fun _ => [(8, .int .u32 ((B.getD i 0 : Nat) : Int))]) ?_ ?_
        ·
          refine J.seq ?_
          refine J.region ?_
          first | refine o_q (q_mvv (v := .int _ _) rfl) ?_ | refine o_q (q_mv) ?_
          first | refine o_q (q_mvv (v := .slice _ _ _) rfl) ?_ | refine o_q (q_mv) ?_
          refine o_q (q_len rfl) ?_
          refine o_q (q_lss rfl rfl) ?_
          refine JL.nil ?_
          refine J.condD rfl (fun c2 => ?_) (fun c2 => ?_)
          ·
            refine J.region ?_
            first | refine o_q (q_mvv (v := .slice _ _ _) rfl) ?_ | refine o_q (q_mv) ?_
            first | refine o_q (q_mvv (v := .int _ _) rfl) ?_ | refine o_q (q_mv) ?_
            obtain ⟨ky, oy, y, rfl, hy, ly, hcy⟩ := MagAt.limb (j := i) hB (by omega)
            have gy := getD_some hy
            refine o_q (q_ia rfl rfl (by omega)) ?_
            refine o_q (q_ldf rfl hcy) ?_
            first | refine o_q (q_asv (v := .int _ _) rfl) ?_ | refine o_q (q_as) ?_
            refine JL.nil ?_
            exact ⟨(), rfl, ⟨rfl, rfl, rfl, rfl, rfl, rfl, rfl, trivial⟩, ⟨(by rw [gy] <;> rfl), trivial⟩, ⟨by omega, rfl⟩, inferInstance⟩
          ·
            have gy := getD_none (l := B) (i := i) (by omega)
            refine J.skip ?_
            exact ⟨(), rfl, ⟨rfl, rfl, rfl, rfl, rfl, rfl, rfl, trivial⟩, ⟨(by rw [gy] <;> rfl), trivial⟩, ⟨by omega, rfl⟩, inferInstance⟩
        ·
          rintro _ σ3 h3 L3 s3 ⟨yl, rfl⟩
          refine J.region ?_
          first | refine o_q (q_mvv (v := .slice _ _ _) rfl) ?_ | refine o_q (q_mv) ?_
          first | refine o_q (q_mvv (v := .int _ _) rfl) ?_ | refine o_q (q_mv) ?_
          first | refine o_q (q_mvv (v := .slice _ _ _) rfl) ?_ | refine o_q (q_mv) ?_
          first | refine o_q (q_mvv (v := .int _ _) rfl) ?_ | refine o_q (q_mv) ?_
          obtain ⟨kx, ox, x, rfl, hx, lx, hcx⟩ := MagAt.limb (j := i) hA (by omega)
          have gx := getD_some hx
          refine o_q (q_ia rfl rfl (by omega)) ?_
          refine o_q (q_ldf rfl hcx) ?_
          first | refine o_q (q_mvv (v := .int _ _) rfl) ?_ | refine o_q (q_mv) ?_
          first | refine o_q (q_mvv (v := .int _ _) rfl) ?_ | refine o_q (q_mv) ?_
          refine o_call (add32_fn lx yl (by omega)) (fun v8 h8 s8 e8 => ?_)
          subst e8
          refine o_q (q_mv) ?_
          refine o_q (q_ex rfl rfl) ?_
          refine o_q (q_ex rfl rfl) ?_
          refine o_q (q_ia rfl rfl (by omega)) ?_
          first | refine o_st1 (v := .int _ _) rfl rfl rfl inferInstance (len_own _ _ (by omega)) ?_ | refine o_st1 rfl rfl rfl inferInstance (len_own _ _ (by omega)) ?_
          first | refine o_q (q_asv (v := .int _ _) rfl) ?_ | refine o_q (q_as) ?_
          refine JL.nil ?_
          refine J.region ?_
          refine o_q (q_add (c := ((i + 1 : Nat) : Int)) rfl rfl (by rw [wi64 (by omega)]; omega)) ?_
          first | refine o_q (q_mvv (v := .int _ _) rfl) ?_ | refine o_q (q_mv) ?_
          refine JL.nil ?_
          have hB : Bs = 4294967296 := rfl
          exact ⟨(i + 1, (x + B.getD i 0 + cy) / 4294967296, out.set i ((x + B.getD i 0 + cy) % 4294967296)), rfl, ⟨rfl, rfl, rfl, rfl, trivial⟩, ⟨rfl, rfl, trivial⟩, ⟨by omega, by omega, by simp [hol], hob.set (Nat.mod_lt _ (by decide)), (by
            have := plus2_step (i := i) (by omega) hv; rw [gx] at this; exact this), (by rw [← set_own] <;> rfl)⟩, by show A.length - (i + 1) < A.length - i; omega, inferInstance⟩
      ·
        refine J.exit ?_
        exact ⟨(cy, out), rfl, ⟨rfl, rfl, trivial⟩, ⟨rfl, trivial⟩, ⟨hcr, hol, hob, (by
          have h1 : i = A.length := by omega
          rw [List.take_of_length_le (l := A) (by omega), List.take_of_length_le (l := B) (by omega), h1] at hv; exact hv), rfl⟩, inferInstance⟩
    ·
      rintro ⟨cy, out⟩ σ6 h6 L6 s6 ⟨hcr, hol, hob, hv, rfl⟩
      refine J.seq ?_
      refine J.region ?_
      first | refine o_q (q_mvv (v := .slice _ _ _) rfl) ?_ | refine o_q (q_mv) ?_
      first | refine o_q (q_mvv (v := .slice _ _ _) rfl) ?_ | refine o_q (q_mv) ?_
      refine o_q (q_len rfl) ?_
      first | refine o_q (q_mvv (v := .int _ _) rfl) ?_ | refine o_q (q_mv) ?_
      refine o_q (q_ia rfl rfl (by omega)) ?_
      first | refine o_st1 (v := .int _ _) rfl rfl rfl inferInstance (len_own _ _ (by omega)) ?_ | refine o_st1 rfl rfl rfl inferInstance (len_own _ _ (by omega)) ?_
      refine JL.nil ?_
      refine J.seq ?_
      rw [set_own]
      refine J.fz b19 (fun h9 s9 hb9 => ?_)
      refine J.region ?_
      first | refine o_q (q_mvv (v := .slice _ _ _) rfl) ?_ | refine o_q (q_mv) ?_
      first | refine o_q (q_asv (v := .slice _ _ _) rfl) ?_ | refine o_q (q_as) ?_
      refine JL.nil ?_
      refine J.ret ?_
      exact ret_ok (fn := Try.f67) rfl (.tmp rfl .nil) ⟨_, MagAt.frozeN hb9 (hob.set (by have hB : Bs = 4294967296 := rfl; omega)) (by simp [hol]) (Nat.le_refl _), (by rw [val_last hol, hv, hsum]), (by simp [hol]; omega)⟩
theorem minus_fn {h : Heap} {va vb : Value} {a b : List Nat} (ha : MagAt h va a) (hb : MagAt h vb b) (la : a.length ≤ 1000001) (lb : b.length ≤ 1000001) (hlen : b.length ≤ a.length) (hba : val b ≤ val a) :
    Fn Try.prog 69 #[va, vb] h fun r h' => ∃ l, MagAt h' r l ∧ val l = val a - val b ∧ l.length = a.length := by
  obtain ⟨pa, ca, rfl, hca⟩ := ha.out
  obtain ⟨pb, cb, rfl, hcb⟩ := hb.out
  refine Fn.intro (args := [_, _]) Try.func69 rfl rfl (Nat.le_of_ble_eq_true rfl) fun w => ?_
  refine J.seq ?_
  refine J.region ?_
  refine o_q (q_as) ?_
  refine JL.nil ?_
  refine J.seq ?_
  refine J.region ?_
  first | refine o_q (q_mvv (v := .slice _ _ _) rfl) ?_ | refine o_q (q_mv) ?_
  refine o_q (q_len rfl) ?_
  refine o_mk (n := a.length) (m := a.length) rfl rfl (by omega) (by omega) (Nat.le_refl _) (by omega) (by omega) (fun b11 => ?_)
  first | refine o_q (q_asv (v := .slice _ _ _) rfl) ?_ | refine o_q (q_as) ?_
  refine JL.nil ?_
  refine J.seq ?_
  rw [flat1]
  refine J.region ?_
  refine o_q (q_as) ?_
  refine JL.nil ?_
  -- cut: kept [5], said []
  first | refine J.cutK (α := List Nat) (fun out h' L' => out.length = a.length ∧ Bd out ∧ val out = val a - val b ∧ [(b11, row 78 (u32s out))] = L') [(5, .slice _ _ _)] ⟨rfl, trivial⟩ (fun _ => []) ?_ ?_ | refine J.cutK (α := List Nat) (fun out h' L' => out.length = a.length ∧ Bd out ∧ val out = val a - val b ∧ [(b11, row 78 (u32s out))] = L') [(5, _)] ⟨rfl, trivial⟩ (fun _ => []) ?_ ?_
  ·
    refine J.seq ?_
    refine J.region ?_
    first | refine o_q (q_mvv (v := .slice _ _ _) rfl) ?_ | refine o_q (q_mv) ?_
    refine o_q (q_len rfl) ?_
    refine o_q (q_mv) ?_
    refine JL.nil ?_
    refine J.block ?_
    -- loop 0: kept [0, 1, 5, 13], said [6, 14]
    first | refine J.loopK (α := Nat × Nat × List Nat) (fun ⟨i, bw, out⟩ h' L' => i ≤ a.length ∧ bw ≤ 1 ∧ out.length = a.length ∧ Bd out ∧ val (out.take i) + val (b.take i) = val (a.take i) + Bs ^ i * bw ∧ [(b11, row 78 (u32s out))] = L') [(0, .slice _ _ _), (1, .slice _ _ _), (5, .slice _ _ _), (13, .int _ _)] ⟨rfl, rfl, rfl, rfl, trivial⟩ (fun ⟨i, bw, out⟩ => [(6, .int .u32 (bw : Int)), (14, .int .i64 (i : Int))]) (fun ⟨i, bw, out⟩ => a.length - i) ((0, 0, List.replicate a.length 0)) ⟨by omega, by omega, by simp, Bd.rep0 _, by simp [val], rfl⟩ ⟨rfl, rfl, trivial⟩ ?_ | refine J.loopK (α := Nat × Nat × List Nat) (fun ⟨i, bw, out⟩ h' L' => i ≤ a.length ∧ bw ≤ 1 ∧ out.length = a.length ∧ Bd out ∧ val (out.take i) + val (b.take i) = val (a.take i) + Bs ^ i * bw ∧ [(b11, row 78 (u32s out))] = L') [(0, _), (1, _), (5, _), (13, _)] ⟨rfl, rfl, rfl, rfl, trivial⟩ (fun ⟨i, bw, out⟩ => [(6, .int .u32 (bw : Int)), (14, .int .i64 (i : Int))]) (fun ⟨i, bw, out⟩ => a.length - i) ((0, 0, List.replicate a.length 0)) ⟨by omega, by omega, by simp, Bd.rep0 _, by simp [val], rfl⟩ ⟨rfl, rfl, trivial⟩ ?_
    rintro ⟨i, bw, out⟩ σ2 h2 L2 s2 ⟨hi, hcr, hol, hob, hv, rfl⟩
    refine J.seq ?_
    refine J.region ?_
    refine o_q (q_lss rfl rfl) ?_
    refine JL.nil ?_
    refine J.seq ?_
    refine J.condD rfl (fun c0 => ?_) (fun c0 => ?_)
    ·
      refine J.skip ?_
      refine J.seq ?_
      refine J.block ?_
      refine J.seq ?_
      refine J.region ?_
      first | refine o_q (q_mvv (v := .int _ _) rfl) ?_ | refine o_q (q_mv) ?_
      first | refine o_q (q_asv (v := .int _ _) rfl) ?_ | refine o_q (q_as) ?_
      refine JL.nil ?_
      refine J.seq ?_
      refine J.region ?_
      refine o_q (q_as) ?_
      refine JL.nil ?_
      -- cut: kept [0, 1, 5, 6, 7, 13, 14], said [8]
      first | refine J.cutK (α := Unit) (fun _ h' L' => b.getD i 0 < 4294967296 ∧ [(b11, row 78 (u32s out))] = L') [(0, .slice _ _ _), (1, .slice _ _ _), (5, .slice _ _ _), (6, .int _ _), (7, .int _ _), (13, .int _ _), (14, .int _ _)] ⟨rfl, rfl, rfl, rfl, rfl, rfl, rfl, trivial⟩ (fun _ => [(8, .int .u32 ((b.getD i 0 : Nat) : Int))]) ?_ ?_ | refine J.cutK (α := Unit) (fun _ h' L' => b.getD i 0 < 4294967296 ∧ [(b11, row 78 (u32s out))] = L') [(0, _), (1, _), (5, _), (6, _), (7, _), (13, _), (14, _)] ⟨rfl, rfl, rfl, rfl, rfl, rfl, rfl, trivial⟩ (fun _ => [(8, .int .u32 ((b.getD i 0 : Nat) : Int))]) ?_ ?_
      ·
        refine J.seq ?_
        refine J.region ?_
        first | refine o_q (q_mvv (v := .int _ _) rfl) ?_ | refine o_q (q_mv) ?_
        first | refine o_q (q_mvv (v := .slice _ _ _) rfl) ?_ | refine o_q (q_mv) ?_
        refine o_q (q_len rfl) ?_
        refine o_q (q_lss rfl rfl) ?_
        refine JL.nil ?_
        refine J.condD rfl (fun c1 => ?_) (fun c1 => ?_)
        ·
          refine J.region ?_
          first | refine o_q (q_mvv (v := .slice _ _ _) rfl) ?_ | refine o_q (q_mv) ?_
          first | refine o_q (q_mvv (v := .int _ _) rfl) ?_ | refine o_q (q_mv) ?_
          obtain ⟨ky, oy, y, rfl, hy, ly, hcy⟩ := MagAt.limb (j := i) hb (by omega)
          have gy := getD_some hy
          refine o_q (q_ia rfl rfl (by omega)) ?_
          refine o_q (q_ldf rfl hcy) ?_
          first | refine o_q (q_asv (v := .int _ _) rfl) ?_ | refine o_q (q_as) ?_
          refine JL.nil ?_
          exact ⟨(), rfl, ⟨rfl, rfl, rfl, rfl, rfl, rfl, rfl, trivial⟩, ⟨(by rw [gy] <;> rfl), trivial⟩, ⟨by omega, rfl⟩, inferInstance⟩
        ·
          have gy := getD_none (l := b) (i := i) (by omega)
          refine J.skip ?_
          exact ⟨(), rfl, ⟨rfl, rfl, rfl, rfl, rfl, rfl, rfl, trivial⟩, ⟨(by rw [gy] <;> rfl), trivial⟩, ⟨by omega, rfl⟩, inferInstance⟩
      ·
        rintro _ σ3 h3 L3 s3 ⟨yl, rfl⟩
        refine J.region ?_
        first | refine o_q (q_mvv (v := .slice _ _ _) rfl) ?_ | refine o_q (q_mv) ?_
        first | refine o_q (q_mvv (v := .int _ _) rfl) ?_ | refine o_q (q_mv) ?_
        first | refine o_q (q_mvv (v := .slice _ _ _) rfl) ?_ | refine o_q (q_mv) ?_
        first | refine o_q (q_mvv (v := .int _ _) rfl) ?_ | refine o_q (q_mv) ?_
        obtain ⟨kx, ox, x, rfl, hx, lx, hcx⟩ := MagAt.limb (j := i) ha (by omega)
        have gx := getD_some hx
        refine o_q (q_ia rfl rfl (by omega)) ?_
        refine o_q (q_ldf rfl hcx) ?_
        first | refine o_q (q_mvv (v := .int _ _) rfl) ?_ | refine o_q (q_mv) ?_
        first | refine o_q (q_mvv (v := .int _ _) rfl) ?_ | refine o_q (q_mv) ?_
        refine o_call (sub32_fn lx yl hcr) (fun v8 h8 s8 e8 => ?_)
        subst e8
        refine o_q (q_mv) ?_
        refine o_q (q_ex rfl rfl) ?_
        refine o_q (q_ex rfl rfl) ?_
        refine o_q (q_ia rfl rfl (by omega)) ?_
        first | refine o_st1 (v := .int _ _) rfl rfl rfl inferInstance (len_own _ _ (by omega)) ?_ | refine o_st1 rfl rfl rfl inferInstance (len_own _ _ (by omega)) ?_
        first | refine o_q (q_asv (v := .int _ _) rfl) ?_ | refine o_q (q_as) ?_
        refine JL.nil ?_
        refine J.region ?_
        refine o_q (q_add (c := ((i + 1 : Nat) : Int)) rfl rfl (by rw [wi64 (by omega)]; omega)) ?_
        first | refine o_q (q_mvv (v := .int _ _) rfl) ?_ | refine o_q (q_mv) ?_
        refine JL.nil ?_
        have hB : Bs = 4294967296 := rfl
        exact ⟨(i + 1, (if x < b.getD i 0 + bw then 1 else 0), out.set i ((x + 4294967296 * 2 - b.getD i 0 - bw) % 4294967296)), rfl, ⟨rfl, rfl, rfl, rfl, trivial⟩, ⟨rfl, rfl, trivial⟩, ⟨by omega, by split <;> omega, by simp [hol], hob.set (Nat.mod_lt _ (by decide)), (by
          refine minus2_step (i := i) (by omega) hv ?_
          rw [gx, hB]; split <;> omega), (by rw [← set_own] <;> rfl)⟩, by show a.length - (i + 1) < a.length - i; omega, inferInstance⟩
    ·
      refine J.exit ?_
      exact ⟨out, rfl, ⟨rfl, trivial⟩, trivial, ⟨hol, hob, (by
        have h1 : i = a.length := by omega
        rw [List.take_of_length_le (l := out) (by omega), List.take_of_length_le (l := a) (by omega), List.take_of_length_le (l := b) (by omega), h1] at hv
        exact minus_end hob hol hv hba), rfl⟩, inferInstance⟩
  ·
    rintro out σ6 h6 L6 s6 ⟨hol, hob, hv, rfl⟩
    refine J.seq ?_
    refine J.fz b11 (fun h9 s9 hb9 => ?_)
    refine J.region ?_
    first | refine o_q (q_mvv (v := .slice _ _ _) rfl) ?_ | refine o_q (q_mv) ?_
    first | refine o_q (q_asv (v := .slice _ _ _) rfl) ?_ | refine o_q (q_as) ?_
    refine JL.nil ?_
    refine J.ret ?_
    exact ret_ok (fn := Try.f69) rfl (.tmp rfl .nil) ⟨_, MagAt.frozeN hb9 hob hol (Nat.le_refl _), hv, hol⟩
theorem add_fn {h : Heap} {va vb : Value} {x y : Int} (ha : IntAt h va x) (hb : IntAt h vb y) (fa : Fit x) (fb : Fit y) :
    Fn Try.prog 50 #[va, vb] h fun r h' => IntAt h' r (x + y) := by
  obtain ⟨pa, ca, rfl, hca, ha⟩ := ha.out
  obtain ⟨pb, cb, rfl, hcb, hb⟩ := hb.out
  have hlen2 : ∀ {x y : Nat}, x ≤ y → (limbs x).length ≤ (limbs y).length := fun h => limbs_len.2 (Nat.lt_of_le_of_lt h (limbs_len.1 (Nat.le_refl _)))
  refine Fn.intro (args := [_, _]) Try.func50 rfl rfl (Nat.le_of_ble_eq_true rfl) fun w => ?_
  refine J.seq ?_
  refine J.region ?_
  first | refine o_bx (v := .agg _) rfl rfl (fun b2 => ?_) | refine o_bx rfl rfl (fun b2 => ?_)
  first | refine o_bx (v := .agg _) rfl rfl (fun b3 => ?_) | refine o_bx rfl rfl (fun b3 => ?_)
  refine o_al (fun b4 => ?_)
  refine JL.nil ?_
  refine J.seq ?_
  refine J.block ?_
  refine J.seq ?_
  refine J.region ?_
  refine o_q (q_fa rfl) ?_
  refine o_q (q_ld rfl inferInstance rfl) ?_
  refine o_q (q_fa rfl) ?_
  refine o_q (q_ld rfl inferInstance rfl) ?_
  refine o_q (q_beq rfl rfl) ?_
  first | refine o_q (q_asv (v := .bool _) rfl) ?_ | refine o_q (q_as) ?_
  refine JL.nil ?_
  refine J.cond rfl (fun hs => ?_) (fun hs => ?_)
  ·
    have hs2 := sign_eq hs
    have sum_z : (if decide (x < 0) = true then -((x.natAbs + y.natAbs : Nat) : Int) else ((x.natAbs + y.natAbs : Nat) : Int)) = x + y := by
      split <;> simp only [decide_eq_true_eq] at * <;> omega
    refine J.seq ?_
    refine J.drawA [8] ?_
    refine JD.calc 0 (by kernel_rfl) rfl trivial ss_sub (q_fa rfl) ?_
    refine JD.load 1 (by kernel_rfl) rfl trivial (q_ld rfl inferInstance rfl) ?_
    refine JD.calc 2 (by kernel_rfl) rfl trivial ss_sub (q_fa rfl) ?_
    refine JD.load 3 (by kernel_rfl) rfl trivial (q_ld rfl inferInstance rfl) ?_
    refine JD.calc 5 (by kernel_rfl) rfl trivial ss_sub (q_fa rfl) ?_
    refine JD.load 6 (by kernel_rfl) rfl trivial (q_ld rfl inferInstance rfl) ?_
    refine JD.one 4 (by kernel_rfl) ?_
    refine JX.eff rfl rfl trivial ?_
    refine o_call (plus_fn ha hb (Nat.le_trans fa (by decide)) (Nat.le_trans fb (by decide))) (fun r1 g1 t1 hr => ?_)
    obtain ⟨l, hl, hv, hlen⟩ := hr
    refine JL.nil ⟨rfl, inferInstance, inferInstance, ?_⟩
    refine JD.one 7 (by kernel_rfl) ?_
    refine JX.eff rfl rfl trivial ?_
    refine o_call (norm_fn hl (by have := Nat.le_trans fa (by decide : 1000000 ≤ 1000001); have := fa; have := fb; unfold Fit at *; omega)) (fun r2 g2 t2 hr => ?_)
    rw [hv, val_limbs, val_limbs] at hr
    rw [sum_z] at hr
    obtain ⟨pr, cr, rfl, _, hm1⟩ := hr.out
    refine JL.nil ⟨rfl, inferInstance, inferInstance, ?_⟩
    refine JD.one 8 (by kernel_rfl) ?_
    refine JX.mut rfl rfl trivial ?_
    refine o_stw (vs := [_, _]) rfl rfl rfl inferInstance rfl rfl ?_
    refine JL.nil ⟨rfl, ?_⟩
    refine JD.done (by kernel_rfl) ?_ _
    refine J.ret ?_
    exact ret_ok (fn := Try.f50) rfl (.agg rfl inferInstance inferInstance .nil) (IntAt.in hm1)
  ·
    have hs2 := sign_ne hs
    refine J.seq ?_
    refine J.region ?_
    refine o_q (q_fa rfl) ?_
    refine o_q (q_ld rfl inferInstance rfl) ?_
    refine o_q (q_fa rfl) ?_
    refine o_q (q_ld rfl inferInstance rfl) ?_
    refine o_call (compare_fn ha hb (Nat.le_trans fa (by decide)) (Nat.le_trans fb (by decide))) (fun v1 hv1 sv1 ev1 => ?_)
    subst ev1
    refine o_q (q_lss rfl rfl) ?_
    first | refine o_q (q_asv (v := .bool _) rfl) ?_ | refine o_q (q_as) ?_
    refine JL.nil ?_
    refine J.condD rfl (fun c1 => ?_) (fun c1 => ?_)
    ·
      have c2 := cmp3_neg.1 c1
      have sum_z : (if decide (y < 0) = true then -((y.natAbs - x.natAbs : Nat) : Int) else ((y.natAbs - x.natAbs : Nat) : Int)) = x + y := by
        split <;> simp only [decide_eq_true_eq] at * <;> omega
      refine J.seq ?_
      refine J.drawA [8] ?_
      refine JD.calc 0 (by kernel_rfl) rfl trivial ss_sub (q_fa rfl) ?_
      refine JD.load 1 (by kernel_rfl) rfl trivial (q_ld rfl inferInstance rfl) ?_
      refine JD.calc 2 (by kernel_rfl) rfl trivial ss_sub (q_fa rfl) ?_
      refine JD.load 3 (by kernel_rfl) rfl trivial (q_ld rfl inferInstance rfl) ?_
      refine JD.calc 5 (by kernel_rfl) rfl trivial ss_sub (q_fa rfl) ?_
      refine JD.load 6 (by kernel_rfl) rfl trivial (q_ld rfl inferInstance rfl) ?_
      refine JD.one 4 (by kernel_rfl) ?_
      refine JX.eff rfl rfl trivial ?_
      refine o_call (minus_fn hb.mono ha.mono (Nat.le_trans fb (by decide)) (Nat.le_trans fa (by decide)) (hlen2 (by omega)) (by rw [val_limbs, val_limbs]; omega)) (fun r1 g1 t1 hr => ?_)
      obtain ⟨l, hl, hv, hlen⟩ := hr
      refine JL.nil ⟨rfl, inferInstance, inferInstance, ?_⟩
      refine JD.one 7 (by kernel_rfl) ?_
      refine JX.eff rfl rfl trivial ?_
      refine o_call (norm_fn hl (by have := Nat.le_trans fa (by decide : 1000000 ≤ 1000001); have := fa; have := fb; unfold Fit at *; omega)) (fun r2 g2 t2 hr => ?_)
      rw [hv, val_limbs, val_limbs] at hr
      rw [sum_z] at hr
      obtain ⟨pr, cr, rfl, _, hm1⟩ := hr.out
      refine JL.nil ⟨rfl, inferInstance, inferInstance, ?_⟩
      refine JD.one 8 (by kernel_rfl) ?_
      refine JX.mut rfl rfl trivial ?_
      refine o_stw (vs := [_, _]) rfl rfl rfl inferInstance rfl rfl ?_
      refine JL.nil ⟨rfl, ?_⟩
      refine JD.done (by kernel_rfl) ?_ _
      refine J.ret ?_
      exact ret_ok (fn := Try.f50) rfl (.agg rfl inferInstance inferInstance .nil) (IntAt.in hm1)
    ·
      have c2 : ¬ x.natAbs < y.natAbs := fun h => c1 (cmp3_neg.2 (by omega))
      have sum_z : (if decide (x < 0) = true then -((x.natAbs - y.natAbs : Nat) : Int) else ((x.natAbs - y.natAbs : Nat) : Int)) = x + y := by
        split <;> simp only [decide_eq_true_eq] at * <;> omega
      refine J.skip ?_
      refine J.seq ?_
      refine J.drawA [8] ?_
      refine JD.calc 0 (by kernel_rfl) rfl trivial ss_sub (q_fa rfl) ?_
      refine JD.load 1 (by kernel_rfl) rfl trivial (q_ld rfl inferInstance rfl) ?_
      refine JD.calc 2 (by kernel_rfl) rfl trivial ss_sub (q_fa rfl) ?_
      refine JD.load 3 (by kernel_rfl) rfl trivial (q_ld rfl inferInstance rfl) ?_
      refine JD.calc 5 (by kernel_rfl) rfl trivial ss_sub (q_fa rfl) ?_
      refine JD.load 6 (by kernel_rfl) rfl trivial (q_ld rfl inferInstance rfl) ?_
      refine JD.one 4 (by kernel_rfl) ?_
      refine JX.eff rfl rfl trivial ?_
      refine o_call (minus_fn ha.mono hb.mono (Nat.le_trans fa (by decide)) (Nat.le_trans fb (by decide)) (hlen2 (by omega)) (by rw [val_limbs, val_limbs]; omega)) (fun r1 g1 t1 hr => ?_)
      obtain ⟨l, hl, hv, hlen⟩ := hr
      refine JL.nil ⟨rfl, inferInstance, inferInstance, ?_⟩
      refine JD.one 7 (by kernel_rfl) ?_
      refine JX.eff rfl rfl trivial ?_
      refine o_call (norm_fn hl (by have := Nat.le_trans fa (by decide : 1000000 ≤ 1000001); have := fa; have := fb; unfold Fit at *; omega)) (fun r2 g2 t2 hr => ?_)
      rw [hv, val_limbs, val_limbs] at hr
      rw [sum_z] at hr
      obtain ⟨pr, cr, rfl, _, hm1⟩ := hr.out
      refine JL.nil ⟨rfl, inferInstance, inferInstance, ?_⟩
      refine JD.one 8 (by kernel_rfl) ?_
      refine JX.mut rfl rfl trivial ?_
      refine o_stw (vs := [_, _]) rfl rfl rfl inferInstance rfl rfl ?_
      refine JL.nil ⟨rfl, ?_⟩
      refine JD.done (by kernel_rfl) ?_ _
      refine J.ret ?_
      exact ret_ok (fn := Try.f50) rfl (.agg rfl inferInstance inferInstance .nil) (IntAt.in hm1)
end Go.Z
end
section
set_option linter.unusedSimpArgs false
set_option linter.unusedVariables false
/- The function Mul of package integer, walked. -/
set_option linter.unusedSimpArgs false
set_option linter.unusedVariables false
namespace Go.Z
open Go Go.RowKit Go.Proofs
set_option maxHeartbeats 4000000 in
theorem mul_fn {h : Heap} {va vb : Value} {x y : Int} (ha : IntAt h va x) (hb : IntAt h vb y) (fa : Fit x) (fb : Fit y) :
    Fn Try.prog 51 #[va, vb] h fun r h' => IntAt h' r (x * y) := by
  obtain ⟨pa, ca, rfl, hca, ha⟩ := ha.out
  obtain ⟨pb, cb, rfl, hcb, hb⟩ := hb.out
  have la := fa
  have lb := fb
  unfold Fit at la lb
  refine Fn.intro (args := [_, _]) Try.func51 rfl rfl (Nat.le_of_ble_eq_true rfl) fun w => ?_
  refine J.seq ?_
  refine J.region ?_
  first | refine o_bx (v := .agg _) rfl rfl (fun b2 => ?_) | refine o_bx rfl rfl (fun b2 => ?_)
  first | refine o_bx (v := .agg _) rfl rfl (fun b3 => ?_) | refine o_bx rfl rfl (fun b3 => ?_)
  refine o_al (fun b4 => ?_)
  refine JL.nil ?_
  refine J.seq ?_
  refine J.region ?_
  refine o_q (q_fa rfl) ?_
  refine o_q (q_ld rfl inferInstance rfl) ?_
  refine o_q (q_len rfl) ?_
  refine o_q (q_fa rfl) ?_
  refine o_q (q_ld rfl inferInstance rfl) ?_
  refine o_q (q_len rfl) ?_
  refine o_q (q_add rfl rfl (wi64 (by omega))) ?_
  refine o_mk (n := (limbs x.natAbs).length + (limbs y.natAbs).length) (m := (limbs x.natAbs).length + (limbs y.natAbs).length) rfl rfl (by omega) (by omega) (Nat.le_refl _) (by omega) (by omega) (fun b18 => ?_)
  first | refine o_q (q_asv (v := .slice _ _ _) rfl) ?_ | refine o_q (q_as) ?_
  refine JL.nil ?_
  -- cut: kept [2, 3, 4, 5], said []
  first | refine J.cutK (α := List Nat) (fun out h' L' => out.length = (limbs x.natAbs).length + (limbs y.natAbs).length ∧ Bd out ∧ val out = val (limbs x.natAbs) * val (limbs y.natAbs) ∧ [(b18, row 78 (u32s out)), (b4, row 37 [.bool false, .slice none 0 0]), (b3, row 37 [.bool (decide (y < 0)), .slice pb (limbs y.natAbs).length cb]), (b2, row 37 [.bool (decide (x < 0)), .slice pa (limbs x.natAbs).length ca])] = L') [(2, .pointer _), (3, .pointer _), (4, .pointer _), (5, .slice _ _ _)] ⟨rfl, rfl, rfl, rfl, trivial⟩ (fun _ => []) ?_ ?_ | refine J.cutK (α := List Nat) (fun out h' L' => out.length = (limbs x.natAbs).length + (limbs y.natAbs).length ∧ Bd out ∧ val out = val (limbs x.natAbs) * val (limbs y.natAbs) ∧ [(b18, row 78 (u32s out)), (b4, row 37 [.bool false, .slice none 0 0]), (b3, row 37 [.bool (decide (y < 0)), .slice pb (limbs y.natAbs).length cb]), (b2, row 37 [.bool (decide (x < 0)), .slice pa (limbs x.natAbs).length ca])] = L') [(2, _), (3, _), (4, _), (5, _)] ⟨rfl, rfl, rfl, rfl, trivial⟩ (fun _ => []) ?_ ?_
  ·
    refine J.seq ?_
    refine J.region ?_
    refine o_q (q_fa rfl) ?_
    refine o_q (q_ld rfl inferInstance rfl) ?_
    refine o_q (q_len rfl) ?_
    refine o_q (q_mv) ?_
    refine JL.nil ?_
    refine J.block ?_
    -- loop 0: kept [2, 3, 4, 5, 20, 21], said [22]
    first | refine J.loopK (α := Nat × List Nat) (fun ⟨i, out⟩ h' L' => i ≤ (limbs x.natAbs).length ∧ out.length = (limbs x.natAbs).length + (limbs y.natAbs).length ∧ Bd out ∧ val out = val ((limbs x.natAbs).take i) * val (limbs y.natAbs) ∧ (∀ j, i + (limbs y.natAbs).length ≤ j → j < (limbs x.natAbs).length + (limbs y.natAbs).length → out[j]? = some 0) ∧ [(b18, row 78 (u32s out)), (b4, row 37 [.bool false, .slice none 0 0]), (b3, row 37 [.bool (decide (y < 0)), .slice pb (limbs y.natAbs).length cb]), (b2, row 37 [.bool (decide (x < 0)), .slice pa (limbs x.natAbs).length ca])] = L') [(2, .pointer _), (3, .pointer _), (4, .pointer _), (5, .slice _ _ _), (20, .slice _ _ _), (21, .int _ _)] ⟨rfl, rfl, rfl, rfl, rfl, rfl, trivial⟩ (fun ⟨i, out⟩ => [(22, .int .i64 (i : Int))]) (fun ⟨i, out⟩ => (limbs x.natAbs).length - i) ((0, List.replicate ((limbs x.natAbs).length + (limbs y.natAbs).length) 0)) ⟨by omega, by simp, Bd.rep0 _, by simp [val_rep0, val], fun j _ hj => by simp [hj], by rw [flat1]⟩ ⟨rfl, trivial⟩ ?_ | refine J.loopK (α := Nat × List Nat) (fun ⟨i, out⟩ h' L' => i ≤ (limbs x.natAbs).length ∧ out.length = (limbs x.natAbs).length + (limbs y.natAbs).length ∧ Bd out ∧ val out = val ((limbs x.natAbs).take i) * val (limbs y.natAbs) ∧ (∀ j, i + (limbs y.natAbs).length ≤ j → j < (limbs x.natAbs).length + (limbs y.natAbs).length → out[j]? = some 0) ∧ [(b18, row 78 (u32s out)), (b4, row 37 [.bool false, .slice none 0 0]), (b3, row 37 [.bool (decide (y < 0)), .slice pb (limbs y.natAbs).length cb]), (b2, row 37 [.bool (decide (x < 0)), .slice pa (limbs x.natAbs).length ca])] = L') [(2, _), (3, _), (4, _), (5, _), (20, _), (21, _)] ⟨rfl, rfl, rfl, rfl, rfl, rfl, trivial⟩ (fun ⟨i, out⟩ => [(22, .int .i64 (i : Int))]) (fun ⟨i, out⟩ => (limbs x.natAbs).length - i) ((0, List.replicate ((limbs x.natAbs).length + (limbs y.natAbs).length) 0)) ⟨by omega, by simp, Bd.rep0 _, by simp [val_rep0, val], fun j _ hj => by simp [hj], by rw [flat1]⟩ ⟨rfl, trivial⟩ ?_
    rintro ⟨i, out⟩ σ h1 L1 s1 ⟨hi, hol, hob, hov, hz, rfl⟩
    refine J.seq ?_
    refine J.region ?_
    refine o_q (q_lss rfl rfl) ?_
    refine JL.nil ?_
    refine J.seq ?_
    refine J.condD rfl (fun c0 => ?_) (fun c0 => ?_)
    ·
      have c0' : i < (limbs x.natAbs).length := by omega
      refine J.skip ?_
      refine J.seq ?_
      refine J.block ?_
      refine J.seq ?_
      refine J.region ?_
      first | refine o_q (q_mvv (v := .int _ _) rfl) ?_ | refine o_q (q_mv) ?_
      obtain ⟨ku, ou, u, rfl, hu, lu, hcu⟩ := MagAt.limb (j := i) ha (by omega)
      have gu := getD_some hu
      refine o_q (q_ia rfl rfl (by omega)) ?_
      refine o_q (q_ldf rfl hcu) ?_
      first | refine o_q (q_asv (v := .int _ _) rfl) ?_ | refine o_q (q_as) ?_
      first | refine o_q (q_asv (v := .int _ _) rfl) ?_ | refine o_q (q_as) ?_
      refine JL.nil ?_
      refine J.seq ?_
      refine J.region ?_
      refine o_q (q_as) ?_
      refine JL.nil ?_
      -- cut: kept [2, 3, 4, 5, 6, 20, 21, 22], said [8]
      first | refine J.cutK (α := Nat × List Nat) (fun ⟨cy, out⟩ h' L' => cy < 4294967296 ∧ out.length = (limbs x.natAbs).length + (limbs y.natAbs).length ∧ Bd out ∧ val out + Bs ^ (i + (limbs y.natAbs).length) * cy = val ((limbs x.natAbs).take (i + 1)) * val (limbs y.natAbs) ∧ (∀ j, i + (limbs y.natAbs).length ≤ j → j < (limbs x.natAbs).length + (limbs y.natAbs).length → out[j]? = some 0) ∧ [(b18, row 78 (u32s out)), (b4, row 37 [.bool false, .slice none 0 0]), (b3, row 37 [.bool (decide (y < 0)), .slice pb (limbs y.natAbs).length cb]), (b2, row 37 [.bool (decide (x < 0)), .slice (some ⟨ku, ou, none⟩) (limbs x.natAbs).length ca])] = L') [(2, .pointer _), (3, .pointer _), (4, .pointer _), (5, .slice _ _ _), (6, .int _ _), (20, .slice _ _ _), (21, .int _ _), (22, .int _ _)] ⟨rfl, rfl, rfl, rfl, rfl, rfl, rfl, rfl, trivial⟩ (fun ⟨cy, out⟩ => [(8, .int .u64 (cy : Int))]) ?_ ?_ | refine J.cutK (α := Nat × List Nat) (fun ⟨cy, out⟩ h' L' => cy < 4294967296 ∧ out.length = (limbs x.natAbs).length + (limbs y.natAbs).length ∧ Bd out ∧ val out + Bs ^ (i + (limbs y.natAbs).length) * cy = val ((limbs x.natAbs).take (i + 1)) * val (limbs y.natAbs) ∧ (∀ j, i + (limbs y.natAbs).length ≤ j → j < (limbs x.natAbs).length + (limbs y.natAbs).length → out[j]? = some 0) ∧ [(b18, row 78 (u32s out)), (b4, row 37 [.bool false, .slice none 0 0]), (b3, row 37 [.bool (decide (y < 0)), .slice pb (limbs y.natAbs).length cb]), (b2, row 37 [.bool (decide (x < 0)), .slice (some ⟨ku, ou, none⟩) (limbs x.natAbs).length ca])] = L') [(2, _), (3, _), (4, _), (5, _), (6, _), (20, _), (21, _), (22, _)] ⟨rfl, rfl, rfl, rfl, rfl, rfl, rfl, rfl, trivial⟩ (fun ⟨cy, out⟩ => [(8, .int .u64 (cy : Int))]) ?_ ?_
      ·
        refine J.seq ?_
        refine J.region ?_
        refine o_q (q_fa rfl) ?_
        refine o_q (q_ld rfl inferInstance rfl) ?_
        refine o_q (q_len rfl) ?_
        refine o_q (q_mv) ?_
        refine JL.nil ?_
        refine J.block ?_
        -- loop 1: kept [2, 3, 4, 5, 6, 7, 20, 21, 22, 28, 29], said [8, 30]
        first | refine J.loopK (α := Nat × Nat × List Nat) (fun ⟨k, cy, out⟩ h' L' => k ≤ (limbs y.natAbs).length ∧ cy < 4294967296 ∧ out.length = (limbs x.natAbs).length + (limbs y.natAbs).length ∧ Bd out ∧ val out + Bs ^ (i + k) * cy = val ((limbs x.natAbs).take i) * val (limbs y.natAbs) + Bs ^ i * u * val ((limbs y.natAbs).take k) ∧ (∀ j, i + (limbs y.natAbs).length ≤ j → j < (limbs x.natAbs).length + (limbs y.natAbs).length → out[j]? = some 0) ∧ [(b18, row 78 (u32s out)), (b4, row 37 [.bool false, .slice none 0 0]), (b3, row 37 [.bool (decide (y < 0)), .slice pb (limbs y.natAbs).length cb]), (b2, row 37 [.bool (decide (x < 0)), .slice (some ⟨ku, ou, none⟩) (limbs x.natAbs).length ca])] = L') [(2, .pointer _), (3, .pointer _), (4, .pointer _), (5, .slice _ _ _), (6, .int _ _), (7, .int _ _), (20, .slice _ _ _), (21, .int _ _), (22, .int _ _), (28, .slice _ _ _), (29, .int _ _)] ⟨rfl, rfl, rfl, rfl, rfl, rfl, rfl, rfl, rfl, rfl, rfl, trivial⟩ (fun ⟨k, cy, out⟩ => [(8, .int .u64 (cy : Int)), (30, .int .i64 (k : Int))]) (fun ⟨k, cy, out⟩ => (limbs y.natAbs).length - k) ((0, 0, out)) ⟨by omega, by omega, hol, hob, by simp [hov, val], hz, rfl⟩ ⟨rfl, rfl, trivial⟩ ?_ | refine J.loopK (α := Nat × Nat × List Nat) (fun ⟨k, cy, out⟩ h' L' => k ≤ (limbs y.natAbs).length ∧ cy < 4294967296 ∧ out.length = (limbs x.natAbs).length + (limbs y.natAbs).length ∧ Bd out ∧ val out + Bs ^ (i + k) * cy = val ((limbs x.natAbs).take i) * val (limbs y.natAbs) + Bs ^ i * u * val ((limbs y.natAbs).take k) ∧ (∀ j, i + (limbs y.natAbs).length ≤ j → j < (limbs x.natAbs).length + (limbs y.natAbs).length → out[j]? = some 0) ∧ [(b18, row 78 (u32s out)), (b4, row 37 [.bool false, .slice none 0 0]), (b3, row 37 [.bool (decide (y < 0)), .slice pb (limbs y.natAbs).length cb]), (b2, row 37 [.bool (decide (x < 0)), .slice (some ⟨ku, ou, none⟩) (limbs x.natAbs).length ca])] = L') [(2, _), (3, _), (4, _), (5, _), (6, _), (7, _), (20, _), (21, _), (22, _), (28, _), (29, _)] ⟨rfl, rfl, rfl, rfl, rfl, rfl, rfl, rfl, rfl, rfl, rfl, trivial⟩ (fun ⟨k, cy, out⟩ => [(8, .int .u64 (cy : Int)), (30, .int .i64 (k : Int))]) (fun ⟨k, cy, out⟩ => (limbs y.natAbs).length - k) ((0, 0, out)) ⟨by omega, by omega, hol, hob, by simp [hov, val], hz, rfl⟩ ⟨rfl, rfl, trivial⟩ ?_
        rintro ⟨k, cy, out⟩ σ2 h2 L2 s2 ⟨hk, hcl, hol, hob, hv, hz, rfl⟩
        refine J.seq ?_
        refine J.region ?_
        refine o_q (q_lss rfl rfl) ?_
        refine JL.nil ?_
        refine J.seq ?_
        refine J.condD rfl (fun c1 => ?_) (fun c1 => ?_)
        ·
          refine J.skip ?_
          refine J.seq ?_
          refine J.block ?_
          refine J.seq ?_
          refine J.region ?_
          first | refine o_q (q_mvv (v := .int _ _) rfl) ?_ | refine o_q (q_mv) ?_
          obtain ⟨kw, ow, w, rfl, hw, lw, hcw⟩ := MagAt.limb (j := k) hb (by omega)
          have gw := getD_some hw
          refine o_q (q_ia rfl rfl (by omega)) ?_
          refine o_q (q_ldf rfl hcw) ?_
          first | refine o_q (q_asv (v := .int _ _) rfl) ?_ | refine o_q (q_as) ?_
          first | refine o_q (q_asv (v := .int _ _) rfl) ?_ | refine o_q (q_as) ?_
          refine JL.nil ?_
          refine J.seq ?_
          obtain ⟨o, ho, hol2⟩ := has_limb (j := i + k) hob (by omega)
          have hcar := carry_lt hcl hol2 lu lw
          have hB : Bs = 4294967296 := rfl
          refine J.region ?_
          first | refine o_q (q_mvv (v := .int _ _) rfl) ?_ | refine o_q (q_mv) ?_
          first | refine o_q (q_mvv (v := .int _ _) rfl) ?_ | refine o_q (q_mv) ?_
          refine o_q (q_cv (c := (u : Int)) rfl (wu64 (by omega))) ?_
          first | refine o_q (q_mvv (v := .int _ _) rfl) ?_ | refine o_q (q_mv) ?_
          refine o_q (q_cv (c := (w : Int)) rfl (wu64 (by omega))) ?_
          refine o_q (q_mul (c := ((u * w : Nat) : Int)) rfl rfl (by rw [← Int.natCast_mul, wu64 (by omega)])) ?_
          first | refine o_q (q_mvv (v := .slice _ _ _) rfl) ?_ | refine o_q (q_mv) ?_
          first | refine o_q (q_mvv (v := .int _ _) rfl) ?_ | refine o_q (q_mv) ?_
          first | refine o_q (q_mvv (v := .int _ _) rfl) ?_ | refine o_q (q_mv) ?_
          refine o_q (q_add (c := ((i + k : Nat) : Int)) rfl rfl (by rw [wi64 (by omega)]; omega)) ?_
          refine o_q (q_ia rfl rfl (by omega)) ?_
          refine o_q (q_ld (v := .int .u32 (o : Int)) rfl inferInstance (get_own ho)) ?_
          refine o_q (q_cv (c := (o : Int)) rfl (wu64 (by omega))) ?_
          refine o_q (q_add (c := ((o + u * w : Nat) : Int)) rfl rfl (by rw [wu64 (by omega)]; omega)) ?_
          refine o_q (q_add (c := ((cy + o + u * w : Nat) : Int)) rfl rfl (by rw [wu64 (by omega)]; omega)) ?_
          first | refine o_q (q_asv (v := .int _ _) rfl) ?_ | refine o_q (q_as) ?_
          refine JL.nil ?_
          refine J.seq ?_
          refine J.region ?_
          first | refine o_q (q_mvv (v := .slice _ _ _) rfl) ?_ | refine o_q (q_mv) ?_
          first | refine o_q (q_mvv (v := .int _ _) rfl) ?_ | refine o_q (q_mv) ?_
          first | refine o_q (q_mvv (v := .int _ _) rfl) ?_ | refine o_q (q_mv) ?_
          refine o_q (q_add (c := ((i + k : Nat) : Int)) rfl rfl (by rw [wi64 (by omega)]; omega)) ?_
          first | refine o_q (q_mvv (v := .int _ _) rfl) ?_ | refine o_q (q_mv) ?_
          refine o_q (q_cv (c := (((cy + o + u * w) % 4294967296 : Nat) : Int)) rfl (by rw [IntKind.wrap_u32]; omega)) ?_
          refine o_q (q_ia rfl rfl (by omega)) ?_
          first | refine o_st1 (v := .int _ _) rfl rfl rfl inferInstance (len_own _ _ (by omega)) ?_ | refine o_st1 rfl rfl rfl inferInstance (len_own _ _ (by omega)) ?_
          refine JL.nil ?_
          refine J.region ?_
          first | refine o_q (q_mvv (v := .int _ _) rfl) ?_ | refine o_q (q_mv) ?_
          refine o_q (q_shr (c := (((cy + o + u * w) / 4294967296 : Nat) : Int)) rfl rfl (by decide) (by simp only [IntKind.bits]; exact fd32 _)) ?_
          first | refine o_q (q_asv (v := .int _ _) rfl) ?_ | refine o_q (q_as) ?_
          refine JL.nil ?_
          refine J.region ?_
          refine o_q (q_add (c := ((k + 1 : Nat) : Int)) rfl rfl (by rw [wi64 (by omega)]; omega)) ?_
          first | refine o_q (q_mvv (v := .int _ _) rfl) ?_ | refine o_q (q_mv) ?_
          refine JL.nil ?_
          exact ⟨(k + 1, (cy + o + u * w) / 4294967296, out.set (i + k) ((cy + o + u * w) % 4294967296)), rfl, ⟨rfl, rfl, rfl, rfl, rfl, rfl, rfl, rfl, rfl, rfl, rfl, trivial⟩, ⟨rfl, rfl, trivial⟩, ⟨by omega, hcar.2, by simp [hol], hob.set (Nat.mod_lt _ (by decide)), (by
            have := mul_step (x := u) (y := w) ho hv
            rw [val_take_succ, gw, Nat.mul_add]; exact this.trans (Nat.add_assoc _ _ _)), (fun j h1 h2 => by rw [List.getElem?_set_ne (by omega)]; exact hz j h1 h2), (by rw [← set_own] <;> rfl)⟩, by show (limbs y.natAbs).length - (k + 1) < (limbs y.natAbs).length - k; omega, inferInstance⟩
        ·
          refine J.exit ?_
          exact ⟨(cy, out), rfl, ⟨rfl, rfl, rfl, rfl, rfl, rfl, rfl, rfl, trivial⟩, ⟨rfl, trivial⟩, ⟨hcl, hol, hob, (by
            have h1 : k = (limbs y.natAbs).length := by omega
            rw [h1, List.take_of_length_le (l := (limbs y.natAbs)) (by omega)] at hv
            rw [val_take_succ, Nat.add_mul, gu]; exact hv), hz, rfl⟩, inferInstance⟩
      ·
        rintro ⟨cy, out⟩ σ8 h8 L8 s8 ⟨hcl, hol, hob, hv, hz, rfl⟩
        refine J.region ?_
        first | refine o_q (q_mvv (v := .slice _ _ _) rfl) ?_ | refine o_q (q_mv) ?_
        first | refine o_q (q_mvv (v := .int _ _) rfl) ?_ | refine o_q (q_mv) ?_
        refine o_q (q_fa rfl) ?_
        refine o_q (q_ld rfl inferInstance rfl) ?_
        refine o_q (q_len rfl) ?_
        refine o_q (q_add (c := ((i + (limbs y.natAbs).length : Nat) : Int)) rfl rfl (by rw [wi64 (by omega)]; omega)) ?_
        first | refine o_q (q_mvv (v := .int _ _) rfl) ?_ | refine o_q (q_mv) ?_
        refine o_q (q_cv (c := (cy : Int)) rfl (wu32 (by omega))) ?_
        refine o_q (q_ia rfl rfl (by omega)) ?_
        first | refine o_st1 (v := .int _ _) rfl rfl rfl inferInstance (len_own _ _ (by omega)) ?_ | refine o_st1 rfl rfl rfl inferInstance (len_own _ _ (by omega)) ?_
        refine JL.nil ?_
        refine J.region ?_
        refine o_q (q_add (c := ((i + 1 : Nat) : Int)) rfl rfl (by rw [wi64 (by omega)]; omega)) ?_
        first | refine o_q (q_mvv (v := .int _ _) rfl) ?_ | refine o_q (q_mv) ?_
        refine JL.nil ?_
        exact ⟨(i + 1, out.set (i + (limbs y.natAbs).length) cy), rfl, ⟨rfl, rfl, rfl, rfl, rfl, rfl, trivial⟩, ⟨rfl, trivial⟩, ⟨by omega, by simp [hol], hob.set hcl, (by
          have := val_set cy (hz (i + (limbs y.natAbs).length) (by omega) (by omega))
          rw [← hv, ← this]; simp), (fun j h1 h2 => by rw [List.getElem?_set_ne (by omega)]; exact hz j (by omega) h2), (by rw [← set_own] <;> rfl)⟩, by show (limbs x.natAbs).length - (i + 1) < (limbs x.natAbs).length - i; omega, inferInstance⟩
    ·
      refine J.exit ?_
      exact ⟨out, rfl, ⟨rfl, rfl, rfl, rfl, trivial⟩, trivial, ⟨hol, hob, (by rw [hov, List.take_of_length_le (by omega)]), rfl⟩, inferInstance⟩
  ·
    rintro out σ9 h9 L9 s9 ⟨hol, hob, hov, rfl⟩
    refine J.seq ?_
    refine J.region ?_
    first | refine o_q (q_mvv (v := .slice _ _ _) rfl) ?_ | refine o_q (q_mv) ?_
    refine o_q (q_fa rfl) ?_
    refine o_q (q_ld rfl inferInstance rfl) ?_
    refine o_q (q_fa rfl) ?_
    refine o_q (q_ld rfl inferInstance rfl) ?_
    refine o_q (q_bne rfl rfl) ?_
    refine JL.fz b18 (fun h10 s10 hb10 => ?_)
    refine o_call (norm_fn (MagAt.frozeN hb10 hob hol (Nat.le_refl _)) (by omega)) (fun r h11 s11 hr => ?_)
    rw [hov, val_limbs, val_limbs, mul_sign] at hr
    obtain ⟨pr, cr, rfl, _, hm1⟩ := hr.out
    refine o_stw (vs := [_, _]) rfl rfl rfl inferInstance rfl rfl ?_
    refine JL.nil ?_
    refine J.ret ?_
    exact ret_ok (fn := Try.f51) rfl (.agg rfl inferInstance inferInstance .nil) (IntAt.in hm1)
end Go.Z
end
section
set_option linter.unusedSimpArgs false
set_option linter.unusedVariables false
/- Plain laws about rows of terms: validity. No program is named here. -/
set_option linter.unusedSimpArgs false
set_option linter.unusedVariables false
namespace Go.Z
/-- The column ahead of place i. -/
def lc (l : List RT) (i : Nat) : Int := if i = 0 then -1 else (l.getD (i - 1) (0, false, [])).1
def okTerm (last cols : Int) (t : RT) : Bool := decide (last < t.1) && decide (t.1 < cols) && canon t.2.1 t.2.2 && decide (sgn t.2.1 t.2.2 ≠ 0)
def okRow (last cols : Int) : List RT → Bool
  | [] => true
  | t :: r => okTerm last cols t && okRow t.1 cols r
def okAll (cols : Int) (L : List (List RT)) : Bool := L.all (okRow (-1) cols)
def validS (rows cols : Int) (L : List (List RT)) : Bool := decide (rows = L.length) && decide (0 ≤ cols) && okAll cols L
theorem drop_get {α : Type} {l : List α} {i : Nat} {a : α} (h : l[i]? = some a) : l.drop i = a :: l.drop (i + 1) := by
  obtain ⟨hi, rfl⟩ := List.getElem?_eq_some_iff.1 h
  exact List.drop_eq_getElem_cons hi
theorem okRow_step {l : List RT} {i : Nat} {t : RT} {last cols : Int} (h : l[i]? = some t) : okRow last cols (l.drop i) = (okTerm last cols t && okRow t.1 cols (l.drop (i + 1))) := by rw [drop_get h]; rfl
theorem lc_succ {l : List RT} {i : Nat} {t : RT} (h : l[i]? = some t) : lc l (i + 1) = t.1 := by simp [lc, h]
theorem lc_zero (l : List RT) : lc l 0 = -1 := rfl
theorem okAll_step {L : List (List RT)} {i : Nat} {r : List RT} {cols : Int} (h : L[i]? = some r) : okAll cols (L.drop i) = (okRow (-1) cols r && okAll cols (L.drop (i + 1))) := by rw [drop_get h]; rfl
theorem okTerm_false {last cols : Int} {t : RT} (h : ¬ (last < t.1 ∧ t.1 < cols ∧ canon t.2.1 t.2.2 = true ∧ sgn t.2.1 t.2.2 ≠ 0)) : okTerm last cols t = false := by
  cases e : okTerm last cols t with
  | false => rfl
  | true => simp [okTerm] at e; exact absurd ⟨e.1.1.1, e.1.1.2, e.1.2, e.2⟩ h
theorem okTerm_true {last cols : Int} {t : RT} (h : last < t.1 ∧ t.1 < cols ∧ canon t.2.1 t.2.2 = true ∧ sgn t.2.1 t.2.2 ≠ 0) : okTerm last cols t = true := by simp [okTerm, h]
theorem seven (b : Bool) (s col cols prev : Int) (i : Nat) : b = false ∨ (b = true ∧ s = 0) ∨ (b = true ∧ s ≠ 0 ∧ col < 0) ∨ (b = true ∧ s ≠ 0 ∧ 0 ≤ col ∧ cols ≤ col) ∨ (b = true ∧ s ≠ 0 ∧ 0 ≤ col ∧ col < cols ∧ i = 0) ∨
    (b = true ∧ s ≠ 0 ∧ 0 ≤ col ∧ col < cols ∧ 0 < i ∧ col ≤ prev) ∨ (b = true ∧ s ≠ 0 ∧ 0 ≤ col ∧ col < cols ∧ 0 < i ∧ prev < col) := by
  cases b
  · exact .inl rfl
  · by_cases h1 : s = 0
    · exact .inr (.inl ⟨rfl, h1⟩)
    · rcases (show col < 0 ∨ (0 ≤ col ∧ cols ≤ col) ∨ (0 ≤ col ∧ col < cols ∧ i = 0) ∨ (0 ≤ col ∧ col < cols ∧ 0 < i ∧ col ≤ prev) ∨ (0 ≤ col ∧ col < cols ∧ 0 < i ∧ prev < col) by omega) with h | h | h | h | h
      · exact .inr (.inr (.inl ⟨rfl, h1, h⟩))
      · exact .inr (.inr (.inr (.inl ⟨rfl, h1, h⟩)))
      · exact .inr (.inr (.inr (.inr (.inl ⟨rfl, h1, h⟩))))
      · exact .inr (.inr (.inr (.inr (.inr (.inl ⟨rfl, h1, h⟩)))))
      · exact .inr (.inr (.inr (.inr (.inr (.inr ⟨rfl, h1, h⟩)))))
theorem five (b : Bool) (s col cols last : Int) : col ≤ last ∨ (last < col ∧ cols ≤ col) ∨ (last < col ∧ col < cols ∧ b = false) ∨ (last < col ∧ col < cols ∧ b = true ∧ s = 0) ∨ (last < col ∧ col < cols ∧ b = true ∧ s ≠ 0) := by
  by_cases h1 : s = 0 <;> cases b <;> simp [h1] <;> omega
theorem lc_prev {l : List RT} {i : Nat} {t : RT} (hi : 0 < i) (h : l[i - 1]? = some t) : lc l i = t.1 := by
  obtain ⟨k, rfl⟩ : ∃ k, i = k + 1 := ⟨i - 1, by omega⟩
  exact lc_succ h
end Go.Z
end
