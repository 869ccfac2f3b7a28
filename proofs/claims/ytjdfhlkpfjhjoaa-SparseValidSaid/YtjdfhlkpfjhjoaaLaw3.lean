/- The law SparseValid, walked. -/
import Derived.Test.YtjdfhlkpfjhjoaaSp8
set_option linter.unusedSimpArgs false
set_option linter.unusedVariables false
namespace Go.Z
open Go Go.RowKit Go.Proofs
theorem law_valid {h : Heap} {v : Value} {rows cols : Int} {L : List (List RT)} (hv : SparseAt h v rows cols L) (hT : ∀ r ∈ L, ∀ t ∈ r, t.2.2.length ≤ 9223372036854775807) :
    Fn Try.prog 3 #[v] h fun r _ => r = .bool true := by
  have hv0 := hv
  obtain ⟨p, c, rfl, hL⟩ := hv
  refine Fn.intro (args := [_]) Try.func3 rfl rfl (Nat.le_of_ble_eq_true rfl) fun w => ?_
  refine J.seq ?_
  refine J.region ?_
  first | refine o_bx (v := .agg _) rfl rfl (fun b1 => ?_) | refine o_bx rfl rfl (fun b1 => ?_)
  refine o_q (q_as) ?_
  refine JL.nil ?_
  refine J.seq ?_
  refine J.region ?_
  refine o_call (sanity_fn) (fun v5 hv5 sv5 ev5 => ?_)
  subst ev5
  first | refine o_q (q_asv (v := .bool _) rfl) ?_ | refine o_q (q_as) ?_
  refine JL.nil ?_
  refine J.seq ?_
  refine J.seq ?_
  refine J.region ?_
  refine o_q (q_fa rfl) ?_
  refine o_q (q_ld rfl inferInstance rfl) ?_
  refine o_q (q_len rfl) ?_
  refine o_q (q_gtr rfl rfl) ?_
  refine JL.nil ?_
  refine J.condD rfl (fun c0 => ?_) (fun c0 => ?_)
  ·
    refine J.seq ?_
    refine J.region ?_
    first | refine o_q (q_mvv (v := .bool _) rfl) ?_ | refine o_q (q_mv) ?_
    first | refine o_q (q_asv (v := .bool _) rfl) ?_ | refine o_q (q_as) ?_
    refine JL.nil ?_
    refine J.ret ?_
    exact ret_ok (fn := Try.f3) rfl (.tmp rfl .nil) rfl
  ·
    refine J.skip ?_
    -- cut: kept [1, 3], said []
    first | refine J.cutK (α := Unit) (fun _ h' L' => (∀ r ∈ L, r.length ≤ 5) ∧ [(b1, row 24 [.int .i64 rows, .int .i64 cols, .slice p L.length c])] = L') [(1, .pointer _), (3, .bool _)] ⟨rfl, rfl, trivial⟩ (fun _ => []) ?_ ?_ | refine J.cutK (α := Unit) (fun _ h' L' => (∀ r ∈ L, r.length ≤ 5) ∧ [(b1, row 24 [.int .i64 rows, .int .i64 cols, .slice p L.length c])] = L') [(1, _), (3, _)] ⟨rfl, rfl, trivial⟩ (fun _ => []) ?_ ?_
    ·
      refine J.seq ?_
      refine J.region ?_
      refine o_q (q_as) ?_
      refine JL.nil ?_
      refine J.block ?_
      -- loop 0: kept [1, 3], said [4]
      first | refine J.loopK (α := Nat) (fun i h' L' => i ≤ L.length ∧ (∀ j r, j < i → L[j]? = some r → r.length ≤ 5) ∧ [(b1, row 24 [.int .i64 rows, .int .i64 cols, .slice p L.length c])] = L') [(1, .pointer _), (3, .bool _)] ⟨rfl, rfl, trivial⟩ (fun i => [(4, .int .i64 (i : Int))]) (fun i => L.length - i) (0) ⟨by omega, fun j r hj => absurd hj (Nat.not_lt_zero _), rfl⟩ ⟨rfl, trivial⟩ ?_ | refine J.loopK (α := Nat) (fun i h' L' => i ≤ L.length ∧ (∀ j r, j < i → L[j]? = some r → r.length ≤ 5) ∧ [(b1, row 24 [.int .i64 rows, .int .i64 cols, .slice p L.length c])] = L') [(1, _), (3, _)] ⟨rfl, rfl, trivial⟩ (fun i => [(4, .int .i64 (i : Int))]) (fun i => L.length - i) (0) ⟨by omega, fun j r hj => absurd hj (Nat.not_lt_zero _), rfl⟩ ⟨rfl, trivial⟩ ?_
      rintro i σ h1 L1 s1 ⟨hi, hlr, rfl⟩
      refine J.seq ?_
      refine J.seq ?_
      refine J.region ?_
      first | refine o_q (q_mvv (v := .int _ _) rfl) ?_ | refine o_q (q_mv) ?_
      refine o_q (q_fa rfl) ?_
      refine o_q (q_ld rfl inferInstance rfl) ?_
      refine o_q (q_len rfl) ?_
      refine o_q (q_lss rfl rfl) ?_
      refine JL.nil ?_
      refine J.condD rfl (fun c1 => ?_) (fun c1 => ?_)
      ·
        obtain ⟨r, hr⟩ := lt_get (show i < L.length by omega)
        obtain ⟨kx, ox, qx, mx, nx, rfl, hcx, hrx⟩ := Sls.row hL hr
        obtain ⟨pw, cw, ew, hcw⟩ := hrx.out
        cases ew
        refine J.skip ?_
        refine J.seq ?_
        refine J.block ?_
        refine J.seq ?_
        refine J.region ?_
        refine o_q (q_fa rfl) ?_
        refine o_q (q_ld rfl inferInstance rfl) ?_
        first | refine o_q (q_mvv (v := .int _ _) rfl) ?_ | refine o_q (q_mv) ?_
        refine o_q (q_ia rfl rfl (by omega)) ?_
        refine o_q (q_ldf rfl hcx) ?_
        refine o_q (q_len rfl) ?_
        refine o_q (q_gtr rfl rfl) ?_
        refine JL.nil ?_
        refine J.condD rfl (fun c2 => ?_) (fun c2 => ?_)
        ·
          refine J.seq ?_
          refine J.region ?_
          first | refine o_q (q_mvv (v := .bool _) rfl) ?_ | refine o_q (q_mv) ?_
          first | refine o_q (q_asv (v := .bool _) rfl) ?_ | refine o_q (q_as) ?_
          refine JL.nil ?_
          refine J.ret ?_
          exact ret_ok (fn := Try.f3) rfl (.tmp rfl .nil) rfl
        ·
          refine J.skip ?_
          refine J.region ?_
          first | refine o_q (q_mvv (v := .int _ _) rfl) ?_ | refine o_q (q_mv) ?_
          refine o_q (q_add (c := ((i + 1 : Nat) : Int)) rfl rfl (by rw [wi64 (by omega)]; omega)) ?_
          first | refine o_q (q_asv (v := .int _ _) rfl) ?_ | refine o_q (q_as) ?_
          refine JL.nil ?_
          exact ⟨i + 1, rfl, ⟨rfl, rfl, trivial⟩, ⟨rfl, trivial⟩, ⟨by omega, fun j r2 hj h2 => (by
            rcases Nat.lt_or_ge j i with h3 | h3
            · exact hlr j r2 h3 h2
            · obtain rfl : j = i := by omega
              rw [hr] at h2; cases h2; omega), rfl⟩, by omega, inferInstance⟩
      ·
        refine J.exit ?_
        exact ⟨(), rfl, ⟨rfl, rfl, trivial⟩, trivial, ⟨fun r hr => (by
          obtain ⟨j, hj⟩ := List.mem_iff_getElem?.1 hr
          exact hlr j r (by have := (List.getElem?_eq_some_iff.1 hj).1; omega) hj), rfl⟩, inferInstance⟩
    ·
      rintro _ σ9 h9 L9 s9 ⟨hlr, rfl⟩
      refine J.seq ?_
      refine J.drawA [] ?_
      first | refine JD.calc 0 (by kernel_rfl) rfl trivial ss_sub (q_mvv (v := .bool _) rfl) ?_ | refine JD.calc 0 (by kernel_rfl) rfl trivial ss_sub (q_mv) ?_
      first | refine JD.calc 1 (by kernel_rfl) rfl trivial ss_sub (q_mvv (v := .bool _) rfl) ?_ | refine JD.calc 1 (by kernel_rfl) rfl trivial ss_sub (q_mv) ?_
      refine JD.load 2 (by kernel_rfl) rfl ⟨_, rfl, rfl⟩ (q_lda (vs := [_, _, _]) rfl inferInstance ⟨rfl, rfl, rfl, trivial⟩) ?_
      refine JD.load 4 (by kernel_rfl) rfl ⟨_, rfl, rfl⟩ (q_lda (vs := [_, _, _]) rfl inferInstance ⟨rfl, rfl, rfl, trivial⟩) ?_
      refine JD.one 3 (by kernel_rfl) ?_
      refine JX.eff rfl rfl ⟨_, rfl, rfl⟩ ?_
      refine o_call (valids_fn hv0.mono (by omega) (fun r hr => Nat.le_trans (hlr r hr) (by decide)) hT) (fun v29 hv29 sv29 ev29 => ?_)
      subst ev29
      refine JL.nil ⟨rfl, inferInstance, inferInstance, ?_⟩
      refine JD.one 5 (by kernel_rfl) ?_
      refine JX.eff rfl rfl ⟨_, rfl, rfl⟩ ?_
      refine o_call (valids_ref hv0.mono (by omega) (fun r hr => Nat.le_trans (hlr r hr) (by decide)) hT) (fun v31 hv31 sv31 ev31 => ?_)
      subst ev31
      refine JL.nil ⟨rfl, inferInstance, inferInstance, ?_⟩
      refine JD.calc 6 (by kernel_rfl) rfl ⟨_, rfl, rfl⟩ ss_sub (q_beq rfl rfl) ?_
      first | refine JD.calc 7 (by kernel_rfl) rfl trivial ss_sub (q_pickTv (v := .bool _) rfl rfl rfl) ?_ | refine JD.calc 7 (by kernel_rfl) rfl trivial ss_sub (q_pickT rfl rfl) ?_
      first | refine JD.calc 8 (by kernel_rfl) rfl trivial ss_sub (q_asv (v := .bool _) rfl) ?_ | refine JD.calc 8 (by kernel_rfl) rfl trivial ss_sub (q_as) ?_
      refine JD.done (by kernel_rfl) ?_ _
      refine J.ret ?_
      exact ret_ok (fn := Try.f3) rfl (.tmp rfl .nil) (congrArg Value.bool (beq_self_eq_true _))
end Go.Z
