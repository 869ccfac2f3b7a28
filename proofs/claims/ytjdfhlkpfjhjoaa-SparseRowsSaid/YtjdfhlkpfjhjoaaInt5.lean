/- The function Mul of package integer, walked. -/
import Derived.Test.YtjdfhlkpfjhjoaaInt4
set_option linter.unusedSimpArgs false
set_option linter.unusedVariables false
namespace Go.Z
open Go Go.RowKit Go.Proofs
set_option maxHeartbeats 4000000 in
theorem mul_fn {h : Heap} {va vb : Value} {x y : Int} (ha : IntAt h va x) (hb : IntAt h vb y) (fa : Fit x) (fb : Fit y) :
    Fn Try.prog 51 #[va, vb] h fun r h' => IntAt h' r (x * y) := by
  obtain ⟨pa, ca, rfl, hca, ha⟩ := ha.out
  obtain ⟨pb, cb, rfl, hcb, hb⟩ := hb.out
  have la := fa
  have lb := fb
  unfold Fit at la lb
  refine Fn.intro (args := [_, _]) Try.func51 rfl rfl (Nat.le_of_ble_eq_true rfl) fun w => ?_
  refine J.seq ?_
  refine J.region ?_
  first | refine o_bx (v := .agg _) rfl rfl (fun b2 => ?_) | refine o_bx rfl rfl (fun b2 => ?_)
  first | refine o_bx (v := .agg _) rfl rfl (fun b3 => ?_) | refine o_bx rfl rfl (fun b3 => ?_)
  refine o_al (fun b4 => ?_)
  refine JL.nil ?_
  refine J.seq ?_
  refine J.region ?_
  refine o_q (q_fa rfl) ?_
  refine o_q (q_ld rfl inferInstance rfl) ?_
  refine o_q (q_len rfl) ?_
  refine o_q (q_fa rfl) ?_
  refine o_q (q_ld rfl inferInstance rfl) ?_
  refine o_q (q_len rfl) ?_
  refine o_q (q_add rfl rfl (wi64 (by omega))) ?_
  refine o_mk (n := (limbs x.natAbs).length + (limbs y.natAbs).length) (m := (limbs x.natAbs).length + (limbs y.natAbs).length) rfl rfl (by omega) (by omega) (Nat.le_refl _) (by omega) (by omega) (fun b18 => ?_)
  first | refine o_q (q_asv (v := .slice _ _ _) rfl) ?_ | refine o_q (q_as) ?_
  refine JL.nil ?_
  -- cut: kept [2, 3, 4, 5], said []
  first | refine J.cutK (α := List Nat) (fun out h' L' => out.length = (limbs x.natAbs).length + (limbs y.natAbs).length ∧ Bd out ∧ val out = val (limbs x.natAbs) * val (limbs y.natAbs) ∧ [(b18, row 78 (u32s out)), (b4, row 37 [.bool false, .slice none 0 0]), (b3, row 37 [.bool (decide (y < 0)), .slice pb (limbs y.natAbs).length cb]), (b2, row 37 [.bool (decide (x < 0)), .slice pa (limbs x.natAbs).length ca])] = L') [(2, .pointer _), (3, .pointer _), (4, .pointer _), (5, .slice _ _ _)] ⟨rfl, rfl, rfl, rfl, trivial⟩ (fun _ => []) ?_ ?_ | refine J.cutK (α := List Nat) (fun out h' L' => out.length = (limbs x.natAbs).length + (limbs y.natAbs).length ∧ Bd out ∧ val out = val (limbs x.natAbs) * val (limbs y.natAbs) ∧ [(b18, row 78 (u32s out)), (b4, row 37 [.bool false, .slice none 0 0]), (b3, row 37 [.bool (decide (y < 0)), .slice pb (limbs y.natAbs).length cb]), (b2, row 37 [.bool (decide (x < 0)), .slice pa (limbs x.natAbs).length ca])] = L') [(2, _), (3, _), (4, _), (5, _)] ⟨rfl, rfl, rfl, rfl, trivial⟩ (fun _ => []) ?_ ?_
  ·
    refine J.seq ?_
    refine J.region ?_
    refine o_q (q_fa rfl) ?_
    refine o_q (q_ld rfl inferInstance rfl) ?_
    refine o_q (q_len rfl) ?_
    refine o_q (q_mv) ?_
    refine JL.nil ?_
    refine J.block ?_
    -- loop 0: kept [2, 3, 4, 5, 20, 21], said [22]
    first | refine J.loopK (α := Nat × List Nat) (fun ⟨i, out⟩ h' L' => i ≤ (limbs x.natAbs).length ∧ out.length = (limbs x.natAbs).length + (limbs y.natAbs).length ∧ Bd out ∧ val out = val ((limbs x.natAbs).take i) * val (limbs y.natAbs) ∧ (∀ j, i + (limbs y.natAbs).length ≤ j → j < (limbs x.natAbs).length + (limbs y.natAbs).length → out[j]? = some 0) ∧ [(b18, row 78 (u32s out)), (b4, row 37 [.bool false, .slice none 0 0]), (b3, row 37 [.bool (decide (y < 0)), .slice pb (limbs y.natAbs).length cb]), (b2, row 37 [.bool (decide (x < 0)), .slice pa (limbs x.natAbs).length ca])] = L') [(2, .pointer _), (3, .pointer _), (4, .pointer _), (5, .slice _ _ _), (20, .slice _ _ _), (21, .int _ _)] ⟨rfl, rfl, rfl, rfl, rfl, rfl, trivial⟩ (fun ⟨i, out⟩ => [(22, .int .i64 (i : Int))]) (fun ⟨i, out⟩ => (limbs x.natAbs).length - i) ((0, List.replicate ((limbs x.natAbs).length + (limbs y.natAbs).length) 0)) ⟨by omega, by simp, Bd.rep0 _, by simp [val_rep0, val], fun j _ hj => by simp [hj], by rw [flat1]⟩ ⟨rfl, trivial⟩ ?_ | refine J.loopK (α := Nat × List Nat) (fun ⟨i, out⟩ h' L' => i ≤ (limbs x.natAbs).length ∧ out.length = (limbs x.natAbs).length + (limbs y.natAbs).length ∧ Bd out ∧ val out = val ((limbs x.natAbs).take i) * val (limbs y.natAbs) ∧ (∀ j, i + (limbs y.natAbs).length ≤ j → j < (limbs x.natAbs).length + (limbs y.natAbs).length → out[j]? = some 0) ∧ [(b18, row 78 (u32s out)), (b4, row 37 [.bool false, .slice none 0 0]), (b3, row 37 [.bool (decide (y < 0)), .slice pb (limbs y.natAbs).length cb]), (b2, row 37 [.bool (decide (x < 0)), .slice pa (limbs x.natAbs).length ca])] = L') [(2, _), (3, _), (4, _), (5, _), (20, _), (21, _)] ⟨rfl, rfl, rfl, rfl, rfl, rfl, trivial⟩ (fun ⟨i, out⟩ => [(22, .int .i64 (i : Int))]) (fun ⟨i, out⟩ => (limbs x.natAbs).length - i) ((0, List.replicate ((limbs x.natAbs).length + (limbs y.natAbs).length) 0)) ⟨by omega, by simp, Bd.rep0 _, by simp [val_rep0, val], fun j _ hj => by simp [hj], by rw [flat1]⟩ ⟨rfl, trivial⟩ ?_
    rintro ⟨i, out⟩ σ h1 L1 s1 ⟨hi, hol, hob, hov, hz, rfl⟩
    refine J.seq ?_
    refine J.region ?_
    refine o_q (q_lss rfl rfl) ?_
    refine JL.nil ?_
    refine J.seq ?_
    refine J.condD rfl (fun c0 => ?_) (fun c0 => ?_)
    ·
      have c0' : i < (limbs x.natAbs).length := by omega
      refine J.skip ?_
      refine J.seq ?_
      refine J.block ?_
      refine J.seq ?_
      refine J.region ?_
      first | refine o_q (q_mvv (v := .int _ _) rfl) ?_ | refine o_q (q_mv) ?_
      obtain ⟨ku, ou, u, rfl, hu, lu, hcu⟩ := MagAt.limb (j := i) ha (by omega)
      have gu := getD_some hu
      refine o_q (q_ia rfl rfl (by omega)) ?_
      refine o_q (q_ldf rfl hcu) ?_
      first | refine o_q (q_asv (v := .int _ _) rfl) ?_ | refine o_q (q_as) ?_
      first | refine o_q (q_asv (v := .int _ _) rfl) ?_ | refine o_q (q_as) ?_
      refine JL.nil ?_
      refine J.seq ?_
      refine J.region ?_
      refine o_q (q_as) ?_
      refine JL.nil ?_
      -- cut: kept [2, 3, 4, 5, 6, 20, 21, 22], said [8]
      first | refine J.cutK (α := Nat × List Nat) (fun ⟨cy, out⟩ h' L' => cy < 4294967296 ∧ out.length = (limbs x.natAbs).length + (limbs y.natAbs).length ∧ Bd out ∧ val out + Bs ^ (i + (limbs y.natAbs).length) * cy = val ((limbs x.natAbs).take (i + 1)) * val (limbs y.natAbs) ∧ (∀ j, i + (limbs y.natAbs).length ≤ j → j < (limbs x.natAbs).length + (limbs y.natAbs).length → out[j]? = some 0) ∧ [(b18, row 78 (u32s out)), (b4, row 37 [.bool false, .slice none 0 0]), (b3, row 37 [.bool (decide (y < 0)), .slice pb (limbs y.natAbs).length cb]), (b2, row 37 [.bool (decide (x < 0)), .slice (some ⟨ku, ou, none⟩) (limbs x.natAbs).length ca])] = L') [(2, .pointer _), (3, .pointer _), (4, .pointer _), (5, .slice _ _ _), (6, .int _ _), (20, .slice _ _ _), (21, .int _ _), (22, .int _ _)] ⟨rfl, rfl, rfl, rfl, rfl, rfl, rfl, rfl, trivial⟩ (fun ⟨cy, out⟩ => [(8, .int .u64 (cy : Int))]) ?_ ?_ | refine J.cutK (α := Nat × List Nat) (fun ⟨cy, out⟩ h' L' => cy < 4294967296 ∧ out.length = (limbs x.natAbs).length + (limbs y.natAbs).length ∧ Bd out ∧ val out + Bs ^ (i + (limbs y.natAbs).length) * cy = val ((limbs x.natAbs).take (i + 1)) * val (limbs y.natAbs) ∧ (∀ j, i + (limbs y.natAbs).length ≤ j → j < (limbs x.natAbs).length + (limbs y.natAbs).length → out[j]? = some 0) ∧ [(b18, row 78 (u32s out)), (b4, row 37 [.bool false, .slice none 0 0]), (b3, row 37 [.bool (decide (y < 0)), .slice pb (limbs y.natAbs).length cb]), (b2, row 37 [.bool (decide (x < 0)), .slice (some ⟨ku, ou, none⟩) (limbs x.natAbs).length ca])] = L') [(2, _), (3, _), (4, _), (5, _), (6, _), (20, _), (21, _), (22, _)] ⟨rfl, rfl, rfl, rfl, rfl, rfl, rfl, rfl, trivial⟩ (fun ⟨cy, out⟩ => [(8, .int .u64 (cy : Int))]) ?_ ?_
      ·
        refine J.seq ?_
        refine J.region ?_
        refine o_q (q_fa rfl) ?_
        refine o_q (q_ld rfl inferInstance rfl) ?_
        refine o_q (q_len rfl) ?_
        refine o_q (q_mv) ?_
        refine JL.nil ?_
        refine J.block ?_
        -- loop 1: kept [2, 3, 4, 5, 6, 7, 20, 21, 22, 28, 29], said [8, 30]
        first | refine J.loopK (α := Nat × Nat × List Nat) (fun ⟨k, cy, out⟩ h' L' => k ≤ (limbs y.natAbs).length ∧ cy < 4294967296 ∧ out.length = (limbs x.natAbs).length + (limbs y.natAbs).length ∧ Bd out ∧ val out + Bs ^ (i + k) * cy = val ((limbs x.natAbs).take i) * val (limbs y.natAbs) + Bs ^ i * u * val ((limbs y.natAbs).take k) ∧ (∀ j, i + (limbs y.natAbs).length ≤ j → j < (limbs x.natAbs).length + (limbs y.natAbs).length → out[j]? = some 0) ∧ [(b18, row 78 (u32s out)), (b4, row 37 [.bool false, .slice none 0 0]), (b3, row 37 [.bool (decide (y < 0)), .slice pb (limbs y.natAbs).length cb]), (b2, row 37 [.bool (decide (x < 0)), .slice (some ⟨ku, ou, none⟩) (limbs x.natAbs).length ca])] = L') [(2, .pointer _), (3, .pointer _), (4, .pointer _), (5, .slice _ _ _), (6, .int _ _), (7, .int _ _), (20, .slice _ _ _), (21, .int _ _), (22, .int _ _), (28, .slice _ _ _), (29, .int _ _)] ⟨rfl, rfl, rfl, rfl, rfl, rfl, rfl, rfl, rfl, rfl, rfl, trivial⟩ (fun ⟨k, cy, out⟩ => [(8, .int .u64 (cy : Int)), (30, .int .i64 (k : Int))]) (fun ⟨k, cy, out⟩ => (limbs y.natAbs).length - k) ((0, 0, out)) ⟨by omega, by omega, hol, hob, by simp [hov, val], hz, rfl⟩ ⟨rfl, rfl, trivial⟩ ?_ | refine J.loopK (α := Nat × Nat × List Nat) (fun ⟨k, cy, out⟩ h' L' => k ≤ (limbs y.natAbs).length ∧ cy < 4294967296 ∧ out.length = (limbs x.natAbs).length + (limbs y.natAbs).length ∧ Bd out ∧ val out + Bs ^ (i + k) * cy = val ((limbs x.natAbs).take i) * val (limbs y.natAbs) + Bs ^ i * u * val ((limbs y.natAbs).take k) ∧ (∀ j, i + (limbs y.natAbs).length ≤ j → j < (limbs x.natAbs).length + (limbs y.natAbs).length → out[j]? = some 0) ∧ [(b18, row 78 (u32s out)), (b4, row 37 [.bool false, .slice none 0 0]), (b3, row 37 [.bool (decide (y < 0)), .slice pb (limbs y.natAbs).length cb]), (b2, row 37 [.bool (decide (x < 0)), .slice (some ⟨ku, ou, none⟩) (limbs x.natAbs).length ca])] = L') [(2, _), (3, _), (4, _), (5, _), (6, _), (7, _), (20, _), (21, _), (22, _), (28, _), (29, _)] ⟨rfl, rfl, rfl, rfl, rfl, rfl, rfl, rfl, rfl, rfl, rfl, trivial⟩ (fun ⟨k, cy, out⟩ => [(8, .int .u64 (cy : Int)), (30, .int .i64 (k : Int))]) (fun ⟨k, cy, out⟩ => (limbs y.natAbs).length - k) ((0, 0, out)) ⟨by omega, by omega, hol, hob, by simp [hov, val], hz, rfl⟩ ⟨rfl, rfl, trivial⟩ ?_
        rintro ⟨k, cy, out⟩ σ2 h2 L2 s2 ⟨hk, hcl, hol, hob, hv, hz, rfl⟩
        refine J.seq ?_
        refine J.region ?_
        refine o_q (q_lss rfl rfl) ?_
        refine JL.nil ?_
        refine J.seq ?_
        refine J.condD rfl (fun c1 => ?_) (fun c1 => ?_)
        ·
          refine J.skip ?_
          refine J.seq ?_
          refine J.block ?_
          refine J.seq ?_
          refine J.region ?_
          first | refine o_q (q_mvv (v := .int _ _) rfl) ?_ | refine o_q (q_mv) ?_
          obtain ⟨kw, ow, w, rfl, hw, lw, hcw⟩ := MagAt.limb (j := k) hb (by omega)
          have gw := getD_some hw
          refine o_q (q_ia rfl rfl (by omega)) ?_
          refine o_q (q_ldf rfl hcw) ?_
          first | refine o_q (q_asv (v := .int _ _) rfl) ?_ | refine o_q (q_as) ?_
          first | refine o_q (q_asv (v := .int _ _) rfl) ?_ | refine o_q (q_as) ?_
          refine JL.nil ?_
          refine J.seq ?_
          obtain ⟨o, ho, hol2⟩ := has_limb (j := i + k) hob (by omega)
          have hcar := carry_lt hcl hol2 lu lw
          have hB : Bs = 4294967296 := rfl
          refine J.region ?_
          first | refine o_q (q_mvv (v := .int _ _) rfl) ?_ | refine o_q (q_mv) ?_
          first | refine o_q (q_mvv (v := .int _ _) rfl) ?_ | refine o_q (q_mv) ?_
          refine o_q (q_cv (c := (u : Int)) rfl (wu64 (by omega))) ?_
          first | refine o_q (q_mvv (v := .int _ _) rfl) ?_ | refine o_q (q_mv) ?_
          refine o_q (q_cv (c := (w : Int)) rfl (wu64 (by omega))) ?_
          refine o_q (q_mul (c := ((u * w : Nat) : Int)) rfl rfl (by rw [← Int.natCast_mul, wu64 (by omega)])) ?_
          first | refine o_q (q_mvv (v := .slice _ _ _) rfl) ?_ | refine o_q (q_mv) ?_
          first | refine o_q (q_mvv (v := .int _ _) rfl) ?_ | refine o_q (q_mv) ?_
          first | refine o_q (q_mvv (v := .int _ _) rfl) ?_ | refine o_q (q_mv) ?_
          refine o_q (q_add (c := ((i + k : Nat) : Int)) rfl rfl (by rw [wi64 (by omega)]; omega)) ?_
          refine o_q (q_ia rfl rfl (by omega)) ?_
          refine o_q (q_ld (v := .int .u32 (o : Int)) rfl inferInstance (get_own ho)) ?_
          refine o_q (q_cv (c := (o : Int)) rfl (wu64 (by omega))) ?_
          refine o_q (q_add (c := ((o + u * w : Nat) : Int)) rfl rfl (by rw [wu64 (by omega)]; omega)) ?_
          refine o_q (q_add (c := ((cy + o + u * w : Nat) : Int)) rfl rfl (by rw [wu64 (by omega)]; omega)) ?_
          first | refine o_q (q_asv (v := .int _ _) rfl) ?_ | refine o_q (q_as) ?_
          refine JL.nil ?_
          refine J.seq ?_
          refine J.region ?_
          first | refine o_q (q_mvv (v := .slice _ _ _) rfl) ?_ | refine o_q (q_mv) ?_
          first | refine o_q (q_mvv (v := .int _ _) rfl) ?_ | refine o_q (q_mv) ?_
          first | refine o_q (q_mvv (v := .int _ _) rfl) ?_ | refine o_q (q_mv) ?_
          refine o_q (q_add (c := ((i + k : Nat) : Int)) rfl rfl (by rw [wi64 (by omega)]; omega)) ?_
          first | refine o_q (q_mvv (v := .int _ _) rfl) ?_ | refine o_q (q_mv) ?_
          refine o_q (q_cv (c := (((cy + o + u * w) % 4294967296 : Nat) : Int)) rfl (by rw [IntKind.wrap_u32]; omega)) ?_
          refine o_q (q_ia rfl rfl (by omega)) ?_
          first | refine o_st1 (v := .int _ _) rfl rfl rfl inferInstance (len_own _ _ (by omega)) ?_ | refine o_st1 rfl rfl rfl inferInstance (len_own _ _ (by omega)) ?_
          refine JL.nil ?_
          refine J.region ?_
          first | refine o_q (q_mvv (v := .int _ _) rfl) ?_ | refine o_q (q_mv) ?_
          refine o_q (q_shr (c := (((cy + o + u * w) / 4294967296 : Nat) : Int)) rfl rfl (by decide) (by simp only [IntKind.bits]; exact fd32 _)) ?_
          first | refine o_q (q_asv (v := .int _ _) rfl) ?_ | refine o_q (q_as) ?_
          refine JL.nil ?_
          refine J.region ?_
          refine o_q (q_add (c := ((k + 1 : Nat) : Int)) rfl rfl (by rw [wi64 (by omega)]; omega)) ?_
          first | refine o_q (q_mvv (v := .int _ _) rfl) ?_ | refine o_q (q_mv) ?_
          refine JL.nil ?_
          exact ⟨(k + 1, (cy + o + u * w) / 4294967296, out.set (i + k) ((cy + o + u * w) % 4294967296)), rfl, ⟨rfl, rfl, rfl, rfl, rfl, rfl, rfl, rfl, rfl, rfl, rfl, trivial⟩, ⟨rfl, rfl, trivial⟩, ⟨by omega, hcar.2, by simp [hol], hob.set (Nat.mod_lt _ (by decide)), (by
            have := mul_step (x := u) (y := w) ho hv
            rw [val_take_succ, gw, Nat.mul_add]; exact this.trans (Nat.add_assoc _ _ _)), (fun j h1 h2 => by rw [List.getElem?_set_ne (by omega)]; exact hz j h1 h2), (by rw [← set_own] <;> rfl)⟩, by show (limbs y.natAbs).length - (k + 1) < (limbs y.natAbs).length - k; omega, inferInstance⟩
        ·
          refine J.exit ?_
          exact ⟨(cy, out), rfl, ⟨rfl, rfl, rfl, rfl, rfl, rfl, rfl, rfl, trivial⟩, ⟨rfl, trivial⟩, ⟨hcl, hol, hob, (by
            have h1 : k = (limbs y.natAbs).length := by omega
            rw [h1, List.take_of_length_le (l := (limbs y.natAbs)) (by omega)] at hv
            rw [val_take_succ, Nat.add_mul, gu]; exact hv), hz, rfl⟩, inferInstance⟩
      ·
        rintro ⟨cy, out⟩ σ8 h8 L8 s8 ⟨hcl, hol, hob, hv, hz, rfl⟩
        refine J.region ?_
        first | refine o_q (q_mvv (v := .slice _ _ _) rfl) ?_ | refine o_q (q_mv) ?_
        first | refine o_q (q_mvv (v := .int _ _) rfl) ?_ | refine o_q (q_mv) ?_
        refine o_q (q_fa rfl) ?_
        refine o_q (q_ld rfl inferInstance rfl) ?_
        refine o_q (q_len rfl) ?_
        refine o_q (q_add (c := ((i + (limbs y.natAbs).length : Nat) : Int)) rfl rfl (by rw [wi64 (by omega)]; omega)) ?_
        first | refine o_q (q_mvv (v := .int _ _) rfl) ?_ | refine o_q (q_mv) ?_
        refine o_q (q_cv (c := (cy : Int)) rfl (wu32 (by omega))) ?_
        refine o_q (q_ia rfl rfl (by omega)) ?_
        first | refine o_st1 (v := .int _ _) rfl rfl rfl inferInstance (len_own _ _ (by omega)) ?_ | refine o_st1 rfl rfl rfl inferInstance (len_own _ _ (by omega)) ?_
        refine JL.nil ?_
        refine J.region ?_
        refine o_q (q_add (c := ((i + 1 : Nat) : Int)) rfl rfl (by rw [wi64 (by omega)]; omega)) ?_
        first | refine o_q (q_mvv (v := .int _ _) rfl) ?_ | refine o_q (q_mv) ?_
        refine JL.nil ?_
        exact ⟨(i + 1, out.set (i + (limbs y.natAbs).length) cy), rfl, ⟨rfl, rfl, rfl, rfl, rfl, rfl, trivial⟩, ⟨rfl, trivial⟩, ⟨by omega, by simp [hol], hob.set hcl, (by
          have := val_set cy (hz (i + (limbs y.natAbs).length) (by omega) (by omega))
          rw [← hv, ← this]; simp), (fun j h1 h2 => by rw [List.getElem?_set_ne (by omega)]; exact hz j (by omega) h2), (by rw [← set_own] <;> rfl)⟩, by show (limbs x.natAbs).length - (i + 1) < (limbs x.natAbs).length - i; omega, inferInstance⟩
    ·
      refine J.exit ?_
      exact ⟨out, rfl, ⟨rfl, rfl, rfl, rfl, trivial⟩, trivial, ⟨hol, hob, (by rw [hov, List.take_of_length_le (by omega)]), rfl⟩, inferInstance⟩
  ·
    rintro out σ9 h9 L9 s9 ⟨hol, hob, hov, rfl⟩
    refine J.seq ?_
    refine J.region ?_
    first | refine o_q (q_mvv (v := .slice _ _ _) rfl) ?_ | refine o_q (q_mv) ?_
    refine o_q (q_fa rfl) ?_
    refine o_q (q_ld rfl inferInstance rfl) ?_
    refine o_q (q_fa rfl) ?_
    refine o_q (q_ld rfl inferInstance rfl) ?_
    refine o_q (q_bne rfl rfl) ?_
    refine JL.fz b18 (fun h10 s10 hb10 => ?_)
    refine o_call (norm_fn (MagAt.frozeN hb10 hob hol (Nat.le_refl _)) (by omega)) (fun r h11 s11 hr => ?_)
    rw [hov, val_limbs, val_limbs, mul_sign] at hr
    obtain ⟨pr, cr, rfl, _, hm1⟩ := hr.out
    refine o_stw (vs := [_, _]) rfl rfl rfl inferInstance rfl rfl ?_
    refine JL.nil ?_
    refine J.ret ?_
    exact ret_ok (fn := Try.f51) rfl (.agg rfl inferInstance inferInstance .nil) (IntAt.in hm1)
end Go.Z
