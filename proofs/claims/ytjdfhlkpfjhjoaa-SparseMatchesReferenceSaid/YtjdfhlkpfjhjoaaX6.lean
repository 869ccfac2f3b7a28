/- Texts of ours, joined: Sp1, Sp2. -/
import Derived.Test.YtjdfhlkpfjhjoaaX5
section
set_option linter.unusedSimpArgs false
set_option linter.unusedVariables false
/- The functions of the sparse matrices and of their reference that look at rows: validity, equality, counting. -/
set_option linter.unusedSimpArgs false
set_option linter.unusedVariables false
namespace Go.Z
open Go Go.RowKit Go.Proofs
set_option maxHeartbeats 4000000 in
theorem validrow_fn {h : Heap} {v : Value} {l : List RT} {cols : Int} (hv : RowAt h v l) (hcols : 0 ≤ cols) (hN : l.length ≤ 1000000) (hT : ∀ t ∈ l, t.2.2.length ≤ 9223372036854775807) :
    Fn Try.prog 16 #[v, .int .i64 cols] h fun r _ => r = .bool (okRow (-1) cols l) := by
  obtain ⟨p, c, rfl, hc⟩ := hv.out
  refine Fn.intro (args := [_, _]) Try.func16 rfl rfl (Nat.le_of_ble_eq_true rfl) fun w => ?_
  refine J.seq ?_
  refine J.region ?_
  refine o_q (q_as) ?_
  refine JL.nil ?_
  -- cut: kept [], said []
  first | refine J.cutK (α := Unit) (fun _ h' L' => okRow (-1) cols l = true ∧ [] = L') [] trivial (fun _ => []) ?_ ?_ | refine J.cutK (α := Unit) (fun _ h' L' => okRow (-1) cols l = true ∧ [] = L') [] trivial (fun _ => []) ?_ ?_
  ·
    refine J.seq ?_
    refine J.region ?_
    refine o_q (q_as) ?_
    refine JL.nil ?_
    refine J.block ?_
    -- loop 0: kept [0, 1], said [5]
    first | refine J.loopK (α := Nat) (fun i h' L' => i ≤ l.length ∧ okRow (-1) cols l = okRow (lc l i) cols (l.drop i) ∧ -1 ≤ lc l i ∧ [] = L') [(0, .slice _ _ _), (1, .int _ _)] ⟨rfl, rfl, trivial⟩ (fun i => [(5, .int .i64 (i : Int))]) (fun i => l.length - i) (0) ⟨by omega, rfl, by rw [lc_zero]; omega, rfl⟩ ⟨rfl, trivial⟩ ?_ | refine J.loopK (α := Nat) (fun i h' L' => i ≤ l.length ∧ okRow (-1) cols l = okRow (lc l i) cols (l.drop i) ∧ -1 ≤ lc l i ∧ [] = L') [(0, _), (1, _)] ⟨rfl, rfl, trivial⟩ (fun i => [(5, .int .i64 (i : Int))]) (fun i => l.length - i) (0) ⟨by omega, rfl, by rw [lc_zero]; omega, rfl⟩ ⟨rfl, trivial⟩ ?_
    rintro i σ h1 L1 s1 ⟨hi, hI, hlc, rfl⟩
    refine J.seq ?_
    refine J.seq ?_
    refine J.region ?_
    first | refine o_q (q_mvv (v := .int _ _) rfl) ?_ | refine o_q (q_mv) ?_
    first | refine o_q (q_mvv (v := .slice _ _ _) rfl) ?_ | refine o_q (q_mv) ?_
    refine o_q (q_len rfl) ?_
    refine o_q (q_lss rfl rfl) ?_
    refine JL.nil ?_
    refine J.condD rfl (fun c0 => ?_) (fun c0 => ?_)
    ·
      obtain ⟨t, ht⟩ := lt_get (show i < l.length by omega)
      obtain ⟨kx, ox, qx, nx, rfl, hcx0, hcx1, hcx, hnx, hmx⟩ := Sls.term hv ht
      refine J.skip ?_
      refine J.seq ?_
      refine J.block ?_
      refine J.seq ?_
      refine J.region ?_
      first | refine o_q (q_mvv (v := .slice _ _ _) rfl) ?_ | refine o_q (q_mv) ?_
      first | refine o_q (q_mvv (v := .int _ _) rfl) ?_ | refine o_q (q_mv) ?_
      refine o_q (q_ia rfl rfl (by omega)) ?_
      refine o_q (q_fa rfl) ?_
      refine o_q (q_ldfa rfl hcx1) ?_
      refine o_call (validr_fn ⟨_, rfl, hmx.mono⟩ (hT t (List.mem_of_getElem? ht))) (fun v1 hv1 sv1 ev1 => ?_)
      subst ev1
      first | refine o_q (q_asv (v := .bool _) rfl) ?_ | refine o_q (q_as) ?_
      refine JL.nil ?_
      refine J.seq ?_
      rcases seven (canon t.2.1 t.2.2) (sgn t.2.1 t.2.2) t.1 cols (lc l i) i with q1 | ⟨q1, q2⟩ | ⟨q1, q2, q3⟩ | ⟨q1, q2, q3, q4⟩ | ⟨q1, q2, q3, q4, q5⟩ | ⟨q1, q2, q3, q4, q5, q6⟩ | ⟨q1, q2, q3, q4, q5, q6⟩
      ·
        have hok := okTerm_false (last := lc l i) (cols := cols) (t := t) (fun ⟨a, b, c, d⟩ => by rw [q1] at c; cases c)
        refine J.drawA [] ?_
        first | refine JD.calc 0 (by kernel_rfl) rfl trivial ss_sub (q_mvv (v := .bool _) rfl) ?_ | refine JD.calc 0 (by kernel_rfl) rfl trivial ss_sub (q_mv) ?_
        refine JD.calc 1 (by kernel_rfl) rfl trivial ss_sub (q_not rfl) ?_
        first | refine JD.calc 2 (by kernel_rfl) rfl trivial ss_sub (q_mvv (v := .bool _) rfl) ?_ | refine JD.calc 2 (by kernel_rfl) rfl trivial ss_sub (q_mv) ?_
        refine JD.pass 3 (by kernel_rfl) rfl rfl (congrArg Value.bool (by rw [q1] <;> rfl)) ss_sub ?_
        refine JD.pass 4 (by kernel_rfl) rfl rfl (congrArg Value.bool (by rw [q1] <;> rfl)) ss_sub ?_
        refine JD.pass 5 (by kernel_rfl) rfl rfl (congrArg Value.bool (by rw [q1] <;> rfl)) ss_sub ?_
        refine JD.pass 6 (by kernel_rfl) rfl rfl (congrArg Value.bool (by rw [q1] <;> rfl)) ss_sub ?_
        refine JD.pass 7 (by kernel_rfl) rfl rfl (congrArg Value.bool (by rw [q1] <;> rfl)) ss_sub ?_
        refine JD.pass 8 (by kernel_rfl) rfl rfl (congrArg Value.bool (by rw [q1] <;> rfl)) ss_sub ?_
        refine JD.pass 9 (by kernel_rfl) rfl rfl (congrArg Value.bool (by rw [q1] <;> rfl)) ss_sub ?_
        refine JD.calc 10 (by kernel_rfl) rfl trivial ss_sub (q_pickT rfl (by rw [q1] <;> rfl)) ?_
        first | refine JD.calc 11 (by kernel_rfl) rfl trivial ss_sub (q_mvv (v := .bool _) rfl) ?_ | refine JD.calc 11 (by kernel_rfl) rfl trivial ss_sub (q_mv) ?_
        refine JD.pass 12 (by kernel_rfl) rfl rfl rfl ss_sub ?_
        refine JD.pass 13 (by kernel_rfl) rfl rfl rfl ss_sub ?_
        refine JD.pass 14 (by kernel_rfl) rfl rfl rfl ss_sub ?_
        refine JD.pass 15 (by kernel_rfl) rfl rfl rfl ss_sub ?_
        refine JD.pass 16 (by kernel_rfl) rfl rfl rfl ss_sub ?_
        refine JD.pass 17 (by kernel_rfl) rfl rfl rfl ss_sub ?_
        refine JD.calc 18 (by kernel_rfl) rfl trivial ss_sub (q_pickT rfl rfl) ?_
        first | refine JD.calc 19 (by kernel_rfl) rfl trivial ss_sub (q_mvv (v := .bool _) rfl) ?_ | refine JD.calc 19 (by kernel_rfl) rfl trivial ss_sub (q_mv) ?_
        refine JD.pass 20 (by kernel_rfl) rfl rfl rfl ss_sub ?_
        refine JD.pass 21 (by kernel_rfl) rfl rfl rfl ss_sub ?_
        refine JD.pass 22 (by kernel_rfl) rfl rfl rfl ss_sub ?_
        refine JD.passU 23 (by kernel_rfl) rfl rfl rfl ss_sub ?_
        refine JD.passU 24 (by kernel_rfl) rfl rfl rfl ss_sub ?_
        refine JD.passU 25 (by kernel_rfl) rfl rfl rfl ss_sub ?_
        refine JD.passU 26 (by kernel_rfl) rfl rfl rfl ss_sub ?_
        refine JD.passU 27 (by kernel_rfl) rfl rfl rfl ss_sub ?_
        refine JD.passU 28 (by kernel_rfl) rfl rfl rfl ss_sub ?_
        refine JD.passU 29 (by kernel_rfl) rfl rfl rfl ss_sub ?_
        refine JD.pass 30 (by kernel_rfl) rfl rfl rfl ss_sub ?_
        refine JD.calc 31 (by kernel_rfl) rfl trivial ss_sub (q_pickT rfl rfl) ?_
        first | refine JD.calc 32 (by kernel_rfl) rfl trivial ss_sub (q_mvv (v := .bool _) rfl) ?_ | refine JD.calc 32 (by kernel_rfl) rfl trivial ss_sub (q_mv) ?_
        refine JD.pass 33 (by kernel_rfl) rfl rfl rfl ss_sub ?_
        refine JD.pass 34 (by kernel_rfl) rfl rfl rfl ss_sub ?_
        refine JD.pass 35 (by kernel_rfl) rfl rfl rfl ss_sub ?_
        refine JD.passU 36 (by kernel_rfl) rfl rfl rfl ss_sub ?_
        refine JD.passU 37 (by kernel_rfl) rfl rfl rfl ss_sub ?_
        refine JD.passU 38 (by kernel_rfl) rfl rfl rfl ss_sub ?_
        refine JD.passU 39 (by kernel_rfl) rfl rfl rfl ss_sub ?_
        refine JD.passU 40 (by kernel_rfl) rfl rfl rfl ss_sub ?_
        refine JD.passU 41 (by kernel_rfl) rfl rfl rfl ss_sub ?_
        refine JD.passU 42 (by kernel_rfl) rfl rfl rfl ss_sub ?_
        refine JD.passU 43 (by kernel_rfl) rfl rfl rfl ss_sub ?_
        refine JD.passU 44 (by kernel_rfl) rfl rfl rfl ss_sub ?_
        refine JD.passU 45 (by kernel_rfl) rfl rfl rfl ss_sub ?_
        refine JD.passU 46 (by kernel_rfl) rfl rfl rfl ss_sub ?_
        refine JD.passU 47 (by kernel_rfl) rfl rfl rfl ss_sub ?_
        refine JD.pass 48 (by kernel_rfl) rfl rfl rfl ss_sub ?_
        refine JD.calc 49 (by kernel_rfl) rfl trivial ss_sub (q_pickT rfl rfl) ?_
        refine JD.done (by kernel_rfl) ?_ _
        refine J.condT rfl rfl ?_
        refine J.seq ?_
        refine J.region ?_
        refine o_q (q_as) ?_
        refine JL.nil ?_
        refine J.ret ?_
        exact ret_ok (fn := Try.f16) rfl (.tmp rfl .nil) (by rw [hI, okRow_step ht, hok] <;> rfl)
      ·
        have hok := okTerm_false (last := lc l i) (cols := cols) (t := t) (fun ⟨a, b, c, d⟩ => d q2)
        refine J.drawA [] ?_
        first | refine JD.calc 0 (by kernel_rfl) rfl trivial ss_sub (q_mvv (v := .bool _) rfl) ?_ | refine JD.calc 0 (by kernel_rfl) rfl trivial ss_sub (q_mv) ?_
        refine JD.calc 1 (by kernel_rfl) rfl trivial ss_sub (q_not rfl) ?_
        first | refine JD.calc 2 (by kernel_rfl) rfl trivial ss_sub (q_mvv (v := .bool _) rfl) ?_ | refine JD.calc 2 (by kernel_rfl) rfl trivial ss_sub (q_mv) ?_
        first | refine JD.calc 3 (by kernel_rfl) rfl ⟨_, rfl, (congrArg Value.bool (by rw [q1] <;> rfl))⟩ ss_sub (q_mvv (v := .slice _ _ _) rfl) ?_ | refine JD.calc 3 (by kernel_rfl) rfl ⟨_, rfl, (congrArg Value.bool (by rw [q1] <;> rfl))⟩ ss_sub (q_mv) ?_
        first | refine JD.calc 4 (by kernel_rfl) rfl ⟨_, rfl, (congrArg Value.bool (by rw [q1] <;> rfl))⟩ ss_sub (q_mvv (v := .int _ _) rfl) ?_ | refine JD.calc 4 (by kernel_rfl) rfl ⟨_, rfl, (congrArg Value.bool (by rw [q1] <;> rfl))⟩ ss_sub (q_mv) ?_
        refine JD.calc 5 (by kernel_rfl) rfl ⟨_, rfl, (congrArg Value.bool (by rw [q1] <;> rfl))⟩ ss_sub (q_ia rfl rfl (by omega)) ?_
        refine JD.calc 6 (by kernel_rfl) rfl ⟨_, rfl, (congrArg Value.bool (by rw [q1] <;> rfl))⟩ ss_sub (q_fa rfl) ?_
        refine JD.load 7 (by kernel_rfl) rfl ⟨_, rfl, (congrArg Value.bool (by rw [q1] <;> rfl))⟩ (q_ldfa rfl hcx1) ?_
        refine JD.one 8 (by kernel_rfl) ?_
        refine JX.eff rfl rfl ⟨_, rfl, (congrArg Value.bool (by rw [q1] <;> rfl))⟩ ?_
        refine o_call (signr_fn ⟨_, rfl, hmx.mono⟩ (hT t (List.mem_of_getElem? ht))) (fun v2 hv2 sv2 ev2 => ?_)
        subst ev2
        refine JL.nil ⟨rfl, inferInstance, inferInstance, ?_⟩
        refine JD.calc 9 (by kernel_rfl) rfl ⟨_, rfl, (congrArg Value.bool (by rw [q1] <;> rfl))⟩ ss_sub (q_eql rfl rfl) ?_
        first | refine JD.calc 10 (by kernel_rfl) rfl trivial ss_sub (q_pickFv (v := .bool _) rfl (by rw [q1] <;> rfl) rfl) ?_ | refine JD.calc 10 (by kernel_rfl) rfl trivial ss_sub (q_pickF rfl (by rw [q1] <;> rfl)) ?_
        first | refine JD.calc 11 (by kernel_rfl) rfl trivial ss_sub (q_mvv (v := .bool _) rfl) ?_ | refine JD.calc 11 (by kernel_rfl) rfl trivial ss_sub (q_mv) ?_
        refine JD.pass 12 (by kernel_rfl) rfl rfl (congrArg Value.bool (decide_eq_true q2)) ss_sub ?_
        refine JD.pass 13 (by kernel_rfl) rfl rfl (congrArg Value.bool (decide_eq_true q2)) ss_sub ?_
        refine JD.pass 14 (by kernel_rfl) rfl rfl (congrArg Value.bool (decide_eq_true q2)) ss_sub ?_
        refine JD.pass 15 (by kernel_rfl) rfl rfl (congrArg Value.bool (decide_eq_true q2)) ss_sub ?_
        refine JD.pass 16 (by kernel_rfl) rfl rfl (congrArg Value.bool (decide_eq_true q2)) ss_sub ?_
        refine JD.pass 17 (by kernel_rfl) rfl rfl (congrArg Value.bool (decide_eq_true q2)) ss_sub ?_
        refine JD.calc 18 (by kernel_rfl) rfl trivial ss_sub (q_pickT rfl (decide_eq_true q2)) ?_
        first | refine JD.calc 19 (by kernel_rfl) rfl trivial ss_sub (q_mvv (v := .bool _) rfl) ?_ | refine JD.calc 19 (by kernel_rfl) rfl trivial ss_sub (q_mv) ?_
        refine JD.pass 20 (by kernel_rfl) rfl rfl rfl ss_sub ?_
        refine JD.pass 21 (by kernel_rfl) rfl rfl rfl ss_sub ?_
        refine JD.pass 22 (by kernel_rfl) rfl rfl rfl ss_sub ?_
        refine JD.passU 23 (by kernel_rfl) rfl rfl rfl ss_sub ?_
        refine JD.passU 24 (by kernel_rfl) rfl rfl rfl ss_sub ?_
        refine JD.passU 25 (by kernel_rfl) rfl rfl rfl ss_sub ?_
        refine JD.passU 26 (by kernel_rfl) rfl rfl rfl ss_sub ?_
        refine JD.passU 27 (by kernel_rfl) rfl rfl rfl ss_sub ?_
        refine JD.passU 28 (by kernel_rfl) rfl rfl rfl ss_sub ?_
        refine JD.passU 29 (by kernel_rfl) rfl rfl rfl ss_sub ?_
        refine JD.pass 30 (by kernel_rfl) rfl rfl rfl ss_sub ?_
        refine JD.calc 31 (by kernel_rfl) rfl trivial ss_sub (q_pickT rfl rfl) ?_
        first | refine JD.calc 32 (by kernel_rfl) rfl trivial ss_sub (q_mvv (v := .bool _) rfl) ?_ | refine JD.calc 32 (by kernel_rfl) rfl trivial ss_sub (q_mv) ?_
        refine JD.pass 33 (by kernel_rfl) rfl rfl rfl ss_sub ?_
        refine JD.pass 34 (by kernel_rfl) rfl rfl rfl ss_sub ?_
        refine JD.pass 35 (by kernel_rfl) rfl rfl rfl ss_sub ?_
        refine JD.passU 36 (by kernel_rfl) rfl rfl rfl ss_sub ?_
        refine JD.passU 37 (by kernel_rfl) rfl rfl rfl ss_sub ?_
        refine JD.passU 38 (by kernel_rfl) rfl rfl rfl ss_sub ?_
        refine JD.passU 39 (by kernel_rfl) rfl rfl rfl ss_sub ?_
        refine JD.passU 40 (by kernel_rfl) rfl rfl rfl ss_sub ?_
        refine JD.passU 41 (by kernel_rfl) rfl rfl rfl ss_sub ?_
        refine JD.passU 42 (by kernel_rfl) rfl rfl rfl ss_sub ?_
        refine JD.passU 43 (by kernel_rfl) rfl rfl rfl ss_sub ?_
        refine JD.passU 44 (by kernel_rfl) rfl rfl rfl ss_sub ?_
        refine JD.passU 45 (by kernel_rfl) rfl rfl rfl ss_sub ?_
        refine JD.passU 46 (by kernel_rfl) rfl rfl rfl ss_sub ?_
        refine JD.passU 47 (by kernel_rfl) rfl rfl rfl ss_sub ?_
        refine JD.pass 48 (by kernel_rfl) rfl rfl rfl ss_sub ?_
        refine JD.calc 49 (by kernel_rfl) rfl trivial ss_sub (q_pickT rfl rfl) ?_
        refine JD.done (by kernel_rfl) ?_ _
        refine J.condT rfl rfl ?_
        refine J.seq ?_
        refine J.region ?_
        refine o_q (q_as) ?_
        refine JL.nil ?_
        refine J.ret ?_
        exact ret_ok (fn := Try.f16) rfl (.tmp rfl .nil) (by rw [hI, okRow_step ht, hok] <;> rfl)
      ·
        have hok := okTerm_false (last := lc l i) (cols := cols) (t := t) (fun ⟨a, b, c, d⟩ => by omega)
        refine J.drawA [] ?_
        first | refine JD.calc 0 (by kernel_rfl) rfl trivial ss_sub (q_mvv (v := .bool _) rfl) ?_ | refine JD.calc 0 (by kernel_rfl) rfl trivial ss_sub (q_mv) ?_
        refine JD.calc 1 (by kernel_rfl) rfl trivial ss_sub (q_not rfl) ?_
        first | refine JD.calc 2 (by kernel_rfl) rfl trivial ss_sub (q_mvv (v := .bool _) rfl) ?_ | refine JD.calc 2 (by kernel_rfl) rfl trivial ss_sub (q_mv) ?_
        first | refine JD.calc 3 (by kernel_rfl) rfl ⟨_, rfl, (congrArg Value.bool (by rw [q1] <;> rfl))⟩ ss_sub (q_mvv (v := .slice _ _ _) rfl) ?_ | refine JD.calc 3 (by kernel_rfl) rfl ⟨_, rfl, (congrArg Value.bool (by rw [q1] <;> rfl))⟩ ss_sub (q_mv) ?_
        first | refine JD.calc 4 (by kernel_rfl) rfl ⟨_, rfl, (congrArg Value.bool (by rw [q1] <;> rfl))⟩ ss_sub (q_mvv (v := .int _ _) rfl) ?_ | refine JD.calc 4 (by kernel_rfl) rfl ⟨_, rfl, (congrArg Value.bool (by rw [q1] <;> rfl))⟩ ss_sub (q_mv) ?_
        refine JD.calc 5 (by kernel_rfl) rfl ⟨_, rfl, (congrArg Value.bool (by rw [q1] <;> rfl))⟩ ss_sub (q_ia rfl rfl (by omega)) ?_
        refine JD.calc 6 (by kernel_rfl) rfl ⟨_, rfl, (congrArg Value.bool (by rw [q1] <;> rfl))⟩ ss_sub (q_fa rfl) ?_
        refine JD.load 7 (by kernel_rfl) rfl ⟨_, rfl, (congrArg Value.bool (by rw [q1] <;> rfl))⟩ (q_ldfa rfl hcx1) ?_
        refine JD.one 8 (by kernel_rfl) ?_
        refine JX.eff rfl rfl ⟨_, rfl, (congrArg Value.bool (by rw [q1] <;> rfl))⟩ ?_
        refine o_call (signr_fn ⟨_, rfl, hmx.mono⟩ (hT t (List.mem_of_getElem? ht))) (fun v2 hv2 sv2 ev2 => ?_)
        subst ev2
        refine JL.nil ⟨rfl, inferInstance, inferInstance, ?_⟩
        refine JD.calc 9 (by kernel_rfl) rfl ⟨_, rfl, (congrArg Value.bool (by rw [q1] <;> rfl))⟩ ss_sub (q_eql rfl rfl) ?_
        first | refine JD.calc 10 (by kernel_rfl) rfl trivial ss_sub (q_pickFv (v := .bool _) rfl (by rw [q1] <;> rfl) rfl) ?_ | refine JD.calc 10 (by kernel_rfl) rfl trivial ss_sub (q_pickF rfl (by rw [q1] <;> rfl)) ?_
        first | refine JD.calc 11 (by kernel_rfl) rfl trivial ss_sub (q_mvv (v := .bool _) rfl) ?_ | refine JD.calc 11 (by kernel_rfl) rfl trivial ss_sub (q_mv) ?_
        first | refine JD.calc 12 (by kernel_rfl) rfl ⟨_, rfl, (congrArg Value.bool (decide_eq_false q2))⟩ ss_sub (q_mvv (v := .slice _ _ _) rfl) ?_ | refine JD.calc 12 (by kernel_rfl) rfl ⟨_, rfl, (congrArg Value.bool (decide_eq_false q2))⟩ ss_sub (q_mv) ?_
        first | refine JD.calc 13 (by kernel_rfl) rfl ⟨_, rfl, (congrArg Value.bool (decide_eq_false q2))⟩ ss_sub (q_mvv (v := .int _ _) rfl) ?_ | refine JD.calc 13 (by kernel_rfl) rfl ⟨_, rfl, (congrArg Value.bool (decide_eq_false q2))⟩ ss_sub (q_mv) ?_
        refine JD.calc 14 (by kernel_rfl) rfl ⟨_, rfl, (congrArg Value.bool (decide_eq_false q2))⟩ ss_sub (q_ia rfl rfl (by omega)) ?_
        refine JD.calc 15 (by kernel_rfl) rfl ⟨_, rfl, (congrArg Value.bool (decide_eq_false q2))⟩ ss_sub (q_fa rfl) ?_
        refine JD.load 16 (by kernel_rfl) rfl ⟨_, rfl, (congrArg Value.bool (decide_eq_false q2))⟩ (q_ldf rfl hcx0) ?_
        refine JD.calc 17 (by kernel_rfl) rfl ⟨_, rfl, (congrArg Value.bool (decide_eq_false q2))⟩ ss_sub (q_lss rfl rfl) ?_
        first | refine JD.calc 18 (by kernel_rfl) rfl trivial ss_sub (q_pickFv (v := .bool _) rfl (decide_eq_false q2) rfl) ?_ | refine JD.calc 18 (by kernel_rfl) rfl trivial ss_sub (q_pickF rfl (decide_eq_false q2)) ?_
        first | refine JD.calc 19 (by kernel_rfl) rfl trivial ss_sub (q_mvv (v := .bool _) rfl) ?_ | refine JD.calc 19 (by kernel_rfl) rfl trivial ss_sub (q_mv) ?_
        refine JD.pass 20 (by kernel_rfl) rfl rfl (congrArg Value.bool (decide_eq_true q3)) ss_sub ?_
        refine JD.pass 21 (by kernel_rfl) rfl rfl (congrArg Value.bool (decide_eq_true q3)) ss_sub ?_
        refine JD.pass 22 (by kernel_rfl) rfl rfl (congrArg Value.bool (decide_eq_true q3)) ss_sub ?_
        refine JD.passU 23 (by kernel_rfl) rfl rfl rfl ss_sub ?_
        refine JD.passU 24 (by kernel_rfl) rfl rfl rfl ss_sub ?_
        refine JD.passU 25 (by kernel_rfl) rfl rfl rfl ss_sub ?_
        refine JD.passU 26 (by kernel_rfl) rfl rfl rfl ss_sub ?_
        refine JD.passU 27 (by kernel_rfl) rfl rfl rfl ss_sub ?_
        refine JD.passU 28 (by kernel_rfl) rfl rfl rfl ss_sub ?_
        refine JD.passU 29 (by kernel_rfl) rfl rfl rfl ss_sub ?_
        refine JD.pass 30 (by kernel_rfl) rfl rfl (congrArg Value.bool (decide_eq_true q3)) ss_sub ?_
        refine JD.calc 31 (by kernel_rfl) rfl trivial ss_sub (q_pickT rfl (decide_eq_true q3)) ?_
        first | refine JD.calc 32 (by kernel_rfl) rfl trivial ss_sub (q_mvv (v := .bool _) rfl) ?_ | refine JD.calc 32 (by kernel_rfl) rfl trivial ss_sub (q_mv) ?_
        refine JD.pass 33 (by kernel_rfl) rfl rfl rfl ss_sub ?_
        refine JD.pass 34 (by kernel_rfl) rfl rfl rfl ss_sub ?_
        refine JD.pass 35 (by kernel_rfl) rfl rfl rfl ss_sub ?_
        refine JD.passU 36 (by kernel_rfl) rfl rfl rfl ss_sub ?_
        refine JD.passU 37 (by kernel_rfl) rfl rfl rfl ss_sub ?_
        refine JD.passU 38 (by kernel_rfl) rfl rfl rfl ss_sub ?_
        refine JD.passU 39 (by kernel_rfl) rfl rfl rfl ss_sub ?_
        refine JD.passU 40 (by kernel_rfl) rfl rfl rfl ss_sub ?_
        refine JD.passU 41 (by kernel_rfl) rfl rfl rfl ss_sub ?_
        refine JD.passU 42 (by kernel_rfl) rfl rfl rfl ss_sub ?_
        refine JD.passU 43 (by kernel_rfl) rfl rfl rfl ss_sub ?_
        refine JD.passU 44 (by kernel_rfl) rfl rfl rfl ss_sub ?_
        refine JD.passU 45 (by kernel_rfl) rfl rfl rfl ss_sub ?_
        refine JD.passU 46 (by kernel_rfl) rfl rfl rfl ss_sub ?_
        refine JD.passU 47 (by kernel_rfl) rfl rfl rfl ss_sub ?_
        refine JD.pass 48 (by kernel_rfl) rfl rfl rfl ss_sub ?_
        refine JD.calc 49 (by kernel_rfl) rfl trivial ss_sub (q_pickT rfl rfl) ?_
        refine JD.done (by kernel_rfl) ?_ _
        refine J.condT rfl rfl ?_
        refine J.seq ?_
        refine J.region ?_
        refine o_q (q_as) ?_
        refine JL.nil ?_
        refine J.ret ?_
        exact ret_ok (fn := Try.f16) rfl (.tmp rfl .nil) (by rw [hI, okRow_step ht, hok] <;> rfl)
      ·
        have hok := okTerm_false (last := lc l i) (cols := cols) (t := t) (fun ⟨a, b, c, d⟩ => by omega)
        refine J.drawA [] ?_
        first | refine JD.calc 0 (by kernel_rfl) rfl trivial ss_sub (q_mvv (v := .bool _) rfl) ?_ | refine JD.calc 0 (by kernel_rfl) rfl trivial ss_sub (q_mv) ?_
        refine JD.calc 1 (by kernel_rfl) rfl trivial ss_sub (q_not rfl) ?_
        first | refine JD.calc 2 (by kernel_rfl) rfl trivial ss_sub (q_mvv (v := .bool _) rfl) ?_ | refine JD.calc 2 (by kernel_rfl) rfl trivial ss_sub (q_mv) ?_
        first | refine JD.calc 3 (by kernel_rfl) rfl ⟨_, rfl, (congrArg Value.bool (by rw [q1] <;> rfl))⟩ ss_sub (q_mvv (v := .slice _ _ _) rfl) ?_ | refine JD.calc 3 (by kernel_rfl) rfl ⟨_, rfl, (congrArg Value.bool (by rw [q1] <;> rfl))⟩ ss_sub (q_mv) ?_
        first | refine JD.calc 4 (by kernel_rfl) rfl ⟨_, rfl, (congrArg Value.bool (by rw [q1] <;> rfl))⟩ ss_sub (q_mvv (v := .int _ _) rfl) ?_ | refine JD.calc 4 (by kernel_rfl) rfl ⟨_, rfl, (congrArg Value.bool (by rw [q1] <;> rfl))⟩ ss_sub (q_mv) ?_
        refine JD.calc 5 (by kernel_rfl) rfl ⟨_, rfl, (congrArg Value.bool (by rw [q1] <;> rfl))⟩ ss_sub (q_ia rfl rfl (by omega)) ?_
        refine JD.calc 6 (by kernel_rfl) rfl ⟨_, rfl, (congrArg Value.bool (by rw [q1] <;> rfl))⟩ ss_sub (q_fa rfl) ?_
        refine JD.load 7 (by kernel_rfl) rfl ⟨_, rfl, (congrArg Value.bool (by rw [q1] <;> rfl))⟩ (q_ldfa rfl hcx1) ?_
        refine JD.one 8 (by kernel_rfl) ?_
        refine JX.eff rfl rfl ⟨_, rfl, (congrArg Value.bool (by rw [q1] <;> rfl))⟩ ?_
        refine o_call (signr_fn ⟨_, rfl, hmx.mono⟩ (hT t (List.mem_of_getElem? ht))) (fun v2 hv2 sv2 ev2 => ?_)
        subst ev2
        refine JL.nil ⟨rfl, inferInstance, inferInstance, ?_⟩
        refine JD.calc 9 (by kernel_rfl) rfl ⟨_, rfl, (congrArg Value.bool (by rw [q1] <;> rfl))⟩ ss_sub (q_eql rfl rfl) ?_
        first | refine JD.calc 10 (by kernel_rfl) rfl trivial ss_sub (q_pickFv (v := .bool _) rfl (by rw [q1] <;> rfl) rfl) ?_ | refine JD.calc 10 (by kernel_rfl) rfl trivial ss_sub (q_pickF rfl (by rw [q1] <;> rfl)) ?_
        first | refine JD.calc 11 (by kernel_rfl) rfl trivial ss_sub (q_mvv (v := .bool _) rfl) ?_ | refine JD.calc 11 (by kernel_rfl) rfl trivial ss_sub (q_mv) ?_
        first | refine JD.calc 12 (by kernel_rfl) rfl ⟨_, rfl, (congrArg Value.bool (decide_eq_false q2))⟩ ss_sub (q_mvv (v := .slice _ _ _) rfl) ?_ | refine JD.calc 12 (by kernel_rfl) rfl ⟨_, rfl, (congrArg Value.bool (decide_eq_false q2))⟩ ss_sub (q_mv) ?_
        first | refine JD.calc 13 (by kernel_rfl) rfl ⟨_, rfl, (congrArg Value.bool (decide_eq_false q2))⟩ ss_sub (q_mvv (v := .int _ _) rfl) ?_ | refine JD.calc 13 (by kernel_rfl) rfl ⟨_, rfl, (congrArg Value.bool (decide_eq_false q2))⟩ ss_sub (q_mv) ?_
        refine JD.calc 14 (by kernel_rfl) rfl ⟨_, rfl, (congrArg Value.bool (decide_eq_false q2))⟩ ss_sub (q_ia rfl rfl (by omega)) ?_
        refine JD.calc 15 (by kernel_rfl) rfl ⟨_, rfl, (congrArg Value.bool (decide_eq_false q2))⟩ ss_sub (q_fa rfl) ?_
        refine JD.load 16 (by kernel_rfl) rfl ⟨_, rfl, (congrArg Value.bool (decide_eq_false q2))⟩ (q_ldf rfl hcx0) ?_
        refine JD.calc 17 (by kernel_rfl) rfl ⟨_, rfl, (congrArg Value.bool (decide_eq_false q2))⟩ ss_sub (q_lss rfl rfl) ?_
        first | refine JD.calc 18 (by kernel_rfl) rfl trivial ss_sub (q_pickFv (v := .bool _) rfl (decide_eq_false q2) rfl) ?_ | refine JD.calc 18 (by kernel_rfl) rfl trivial ss_sub (q_pickF rfl (decide_eq_false q2)) ?_
        first | refine JD.calc 19 (by kernel_rfl) rfl trivial ss_sub (q_mvv (v := .bool _) rfl) ?_ | refine JD.calc 19 (by kernel_rfl) rfl trivial ss_sub (q_mv) ?_
        first | refine JD.calc 20 (by kernel_rfl) rfl ⟨_, rfl, (congrArg Value.bool (decide_eq_false (by omega)))⟩ ss_sub (q_mvv (v := .int _ _) rfl) ?_ | refine JD.calc 20 (by kernel_rfl) rfl ⟨_, rfl, (congrArg Value.bool (decide_eq_false (by omega)))⟩ ss_sub (q_mv) ?_
        refine JD.calc 21 (by kernel_rfl) rfl ⟨_, rfl, (congrArg Value.bool (decide_eq_false (by omega)))⟩ ss_sub (q_geq rfl rfl) ?_
        first | refine JD.calc 22 (by kernel_rfl) rfl ⟨_, rfl, (congrArg Value.bool (decide_eq_false (by omega)))⟩ ss_sub (q_mvv (v := .bool _) rfl) ?_ | refine JD.calc 22 (by kernel_rfl) rfl ⟨_, rfl, (congrArg Value.bool (decide_eq_false (by omega)))⟩ ss_sub (q_mv) ?_
        first | refine JD.calc 23 (by kernel_rfl) rfl ⟨_, rfl, (congrArg Value.bool (decide_eq_true hcols))⟩ ss_sub (q_mvv (v := .slice _ _ _) rfl) ?_ | refine JD.calc 23 (by kernel_rfl) rfl ⟨_, rfl, (congrArg Value.bool (decide_eq_true hcols))⟩ ss_sub (q_mv) ?_
        first | refine JD.calc 24 (by kernel_rfl) rfl ⟨_, rfl, (congrArg Value.bool (decide_eq_true hcols))⟩ ss_sub (q_mvv (v := .int _ _) rfl) ?_ | refine JD.calc 24 (by kernel_rfl) rfl ⟨_, rfl, (congrArg Value.bool (decide_eq_true hcols))⟩ ss_sub (q_mv) ?_
        refine JD.calc 25 (by kernel_rfl) rfl ⟨_, rfl, (congrArg Value.bool (decide_eq_true hcols))⟩ ss_sub (q_ia rfl rfl (by omega)) ?_
        refine JD.calc 26 (by kernel_rfl) rfl ⟨_, rfl, (congrArg Value.bool (decide_eq_true hcols))⟩ ss_sub (q_fa rfl) ?_
        refine JD.load 27 (by kernel_rfl) rfl ⟨_, rfl, (congrArg Value.bool (decide_eq_true hcols))⟩ (q_ldf rfl hcx0) ?_
        first | refine JD.calc 28 (by kernel_rfl) rfl ⟨_, rfl, (congrArg Value.bool (decide_eq_true hcols))⟩ ss_sub (q_mvv (v := .int _ _) rfl) ?_ | refine JD.calc 28 (by kernel_rfl) rfl ⟨_, rfl, (congrArg Value.bool (decide_eq_true hcols))⟩ ss_sub (q_mv) ?_
        refine JD.calc 29 (by kernel_rfl) rfl ⟨_, rfl, (congrArg Value.bool (decide_eq_true hcols))⟩ ss_sub (q_geq rfl rfl) ?_
        first | refine JD.calc 30 (by kernel_rfl) rfl ⟨_, rfl, (congrArg Value.bool (decide_eq_false (by omega)))⟩ ss_sub (q_pickTv (v := .bool _) rfl (decide_eq_true hcols) rfl) ?_ | refine JD.calc 30 (by kernel_rfl) rfl ⟨_, rfl, (congrArg Value.bool (decide_eq_false (by omega)))⟩ ss_sub (q_pickT rfl (decide_eq_true hcols)) ?_
        first | refine JD.calc 31 (by kernel_rfl) rfl trivial ss_sub (q_pickFv (v := .bool _) rfl (decide_eq_false (by omega)) rfl) ?_ | refine JD.calc 31 (by kernel_rfl) rfl trivial ss_sub (q_pickF rfl (decide_eq_false (by omega))) ?_
        first | refine JD.calc 32 (by kernel_rfl) rfl trivial ss_sub (q_mvv (v := .bool _) rfl) ?_ | refine JD.calc 32 (by kernel_rfl) rfl trivial ss_sub (q_mv) ?_
        refine JD.pass 33 (by kernel_rfl) rfl rfl (congrArg Value.bool (decide_eq_true q4)) ss_sub ?_
        refine JD.pass 34 (by kernel_rfl) rfl rfl (congrArg Value.bool (decide_eq_true q4)) ss_sub ?_
        refine JD.pass 35 (by kernel_rfl) rfl rfl (congrArg Value.bool (decide_eq_true q4)) ss_sub ?_
        refine JD.passU 36 (by kernel_rfl) rfl rfl rfl ss_sub ?_
        refine JD.passU 37 (by kernel_rfl) rfl rfl rfl ss_sub ?_
        refine JD.passU 38 (by kernel_rfl) rfl rfl rfl ss_sub ?_
        refine JD.passU 39 (by kernel_rfl) rfl rfl rfl ss_sub ?_
        refine JD.passU 40 (by kernel_rfl) rfl rfl rfl ss_sub ?_
        refine JD.passU 41 (by kernel_rfl) rfl rfl rfl ss_sub ?_
        refine JD.passU 42 (by kernel_rfl) rfl rfl rfl ss_sub ?_
        refine JD.passU 43 (by kernel_rfl) rfl rfl rfl ss_sub ?_
        refine JD.passU 44 (by kernel_rfl) rfl rfl rfl ss_sub ?_
        refine JD.passU 45 (by kernel_rfl) rfl rfl rfl ss_sub ?_
        refine JD.passU 46 (by kernel_rfl) rfl rfl rfl ss_sub ?_
        refine JD.passU 47 (by kernel_rfl) rfl rfl rfl ss_sub ?_
        refine JD.pass 48 (by kernel_rfl) rfl rfl (congrArg Value.bool (decide_eq_true q4)) ss_sub ?_
        refine JD.calc 49 (by kernel_rfl) rfl trivial ss_sub (q_pickT rfl (decide_eq_true q4)) ?_
        refine JD.done (by kernel_rfl) ?_ _
        refine J.condT rfl rfl ?_
        refine J.seq ?_
        refine J.region ?_
        refine o_q (q_as) ?_
        refine JL.nil ?_
        refine J.ret ?_
        exact ret_ok (fn := Try.f16) rfl (.tmp rfl .nil) (by rw [hI, okRow_step ht, hok] <;> rfl)
      ·
        have hok := okTerm_true (last := lc l i) (cols := cols) (t := t) ⟨by subst q5; rw [lc_zero]; omega, q4, q1, q2⟩
        refine J.drawA [] ?_
        first | refine JD.calc 0 (by kernel_rfl) rfl trivial ss_sub (q_mvv (v := .bool _) rfl) ?_ | refine JD.calc 0 (by kernel_rfl) rfl trivial ss_sub (q_mv) ?_
        refine JD.calc 1 (by kernel_rfl) rfl trivial ss_sub (q_not rfl) ?_
        first | refine JD.calc 2 (by kernel_rfl) rfl trivial ss_sub (q_mvv (v := .bool _) rfl) ?_ | refine JD.calc 2 (by kernel_rfl) rfl trivial ss_sub (q_mv) ?_
        first | refine JD.calc 3 (by kernel_rfl) rfl ⟨_, rfl, (congrArg Value.bool (by rw [q1] <;> rfl))⟩ ss_sub (q_mvv (v := .slice _ _ _) rfl) ?_ | refine JD.calc 3 (by kernel_rfl) rfl ⟨_, rfl, (congrArg Value.bool (by rw [q1] <;> rfl))⟩ ss_sub (q_mv) ?_
        first | refine JD.calc 4 (by kernel_rfl) rfl ⟨_, rfl, (congrArg Value.bool (by rw [q1] <;> rfl))⟩ ss_sub (q_mvv (v := .int _ _) rfl) ?_ | refine JD.calc 4 (by kernel_rfl) rfl ⟨_, rfl, (congrArg Value.bool (by rw [q1] <;> rfl))⟩ ss_sub (q_mv) ?_
        refine JD.calc 5 (by kernel_rfl) rfl ⟨_, rfl, (congrArg Value.bool (by rw [q1] <;> rfl))⟩ ss_sub (q_ia rfl rfl (by omega)) ?_
        refine JD.calc 6 (by kernel_rfl) rfl ⟨_, rfl, (congrArg Value.bool (by rw [q1] <;> rfl))⟩ ss_sub (q_fa rfl) ?_
        refine JD.load 7 (by kernel_rfl) rfl ⟨_, rfl, (congrArg Value.bool (by rw [q1] <;> rfl))⟩ (q_ldfa rfl hcx1) ?_
        refine JD.one 8 (by kernel_rfl) ?_
        refine JX.eff rfl rfl ⟨_, rfl, (congrArg Value.bool (by rw [q1] <;> rfl))⟩ ?_
        refine o_call (signr_fn ⟨_, rfl, hmx.mono⟩ (hT t (List.mem_of_getElem? ht))) (fun v2 hv2 sv2 ev2 => ?_)
        subst ev2
        refine JL.nil ⟨rfl, inferInstance, inferInstance, ?_⟩
        refine JD.calc 9 (by kernel_rfl) rfl ⟨_, rfl, (congrArg Value.bool (by rw [q1] <;> rfl))⟩ ss_sub (q_eql rfl rfl) ?_
        first | refine JD.calc 10 (by kernel_rfl) rfl trivial ss_sub (q_pickFv (v := .bool _) rfl (by rw [q1] <;> rfl) rfl) ?_ | refine JD.calc 10 (by kernel_rfl) rfl trivial ss_sub (q_pickF rfl (by rw [q1] <;> rfl)) ?_
        first | refine JD.calc 11 (by kernel_rfl) rfl trivial ss_sub (q_mvv (v := .bool _) rfl) ?_ | refine JD.calc 11 (by kernel_rfl) rfl trivial ss_sub (q_mv) ?_
        first | refine JD.calc 12 (by kernel_rfl) rfl ⟨_, rfl, (congrArg Value.bool (decide_eq_false q2))⟩ ss_sub (q_mvv (v := .slice _ _ _) rfl) ?_ | refine JD.calc 12 (by kernel_rfl) rfl ⟨_, rfl, (congrArg Value.bool (decide_eq_false q2))⟩ ss_sub (q_mv) ?_
        first | refine JD.calc 13 (by kernel_rfl) rfl ⟨_, rfl, (congrArg Value.bool (decide_eq_false q2))⟩ ss_sub (q_mvv (v := .int _ _) rfl) ?_ | refine JD.calc 13 (by kernel_rfl) rfl ⟨_, rfl, (congrArg Value.bool (decide_eq_false q2))⟩ ss_sub (q_mv) ?_
        refine JD.calc 14 (by kernel_rfl) rfl ⟨_, rfl, (congrArg Value.bool (decide_eq_false q2))⟩ ss_sub (q_ia rfl rfl (by omega)) ?_
        refine JD.calc 15 (by kernel_rfl) rfl ⟨_, rfl, (congrArg Value.bool (decide_eq_false q2))⟩ ss_sub (q_fa rfl) ?_
        refine JD.load 16 (by kernel_rfl) rfl ⟨_, rfl, (congrArg Value.bool (decide_eq_false q2))⟩ (q_ldf rfl hcx0) ?_
        refine JD.calc 17 (by kernel_rfl) rfl ⟨_, rfl, (congrArg Value.bool (decide_eq_false q2))⟩ ss_sub (q_lss rfl rfl) ?_
        first | refine JD.calc 18 (by kernel_rfl) rfl trivial ss_sub (q_pickFv (v := .bool _) rfl (decide_eq_false q2) rfl) ?_ | refine JD.calc 18 (by kernel_rfl) rfl trivial ss_sub (q_pickF rfl (decide_eq_false q2)) ?_
        first | refine JD.calc 19 (by kernel_rfl) rfl trivial ss_sub (q_mvv (v := .bool _) rfl) ?_ | refine JD.calc 19 (by kernel_rfl) rfl trivial ss_sub (q_mv) ?_
        first | refine JD.calc 20 (by kernel_rfl) rfl ⟨_, rfl, (congrArg Value.bool (decide_eq_false (by omega)))⟩ ss_sub (q_mvv (v := .int _ _) rfl) ?_ | refine JD.calc 20 (by kernel_rfl) rfl ⟨_, rfl, (congrArg Value.bool (decide_eq_false (by omega)))⟩ ss_sub (q_mv) ?_
        refine JD.calc 21 (by kernel_rfl) rfl ⟨_, rfl, (congrArg Value.bool (decide_eq_false (by omega)))⟩ ss_sub (q_geq rfl rfl) ?_
        first | refine JD.calc 22 (by kernel_rfl) rfl ⟨_, rfl, (congrArg Value.bool (decide_eq_false (by omega)))⟩ ss_sub (q_mvv (v := .bool _) rfl) ?_ | refine JD.calc 22 (by kernel_rfl) rfl ⟨_, rfl, (congrArg Value.bool (decide_eq_false (by omega)))⟩ ss_sub (q_mv) ?_
        first | refine JD.calc 23 (by kernel_rfl) rfl ⟨_, rfl, (congrArg Value.bool (decide_eq_true hcols))⟩ ss_sub (q_mvv (v := .slice _ _ _) rfl) ?_ | refine JD.calc 23 (by kernel_rfl) rfl ⟨_, rfl, (congrArg Value.bool (decide_eq_true hcols))⟩ ss_sub (q_mv) ?_
        first | refine JD.calc 24 (by kernel_rfl) rfl ⟨_, rfl, (congrArg Value.bool (decide_eq_true hcols))⟩ ss_sub (q_mvv (v := .int _ _) rfl) ?_ | refine JD.calc 24 (by kernel_rfl) rfl ⟨_, rfl, (congrArg Value.bool (decide_eq_true hcols))⟩ ss_sub (q_mv) ?_
        refine JD.calc 25 (by kernel_rfl) rfl ⟨_, rfl, (congrArg Value.bool (decide_eq_true hcols))⟩ ss_sub (q_ia rfl rfl (by omega)) ?_
        refine JD.calc 26 (by kernel_rfl) rfl ⟨_, rfl, (congrArg Value.bool (decide_eq_true hcols))⟩ ss_sub (q_fa rfl) ?_
        refine JD.load 27 (by kernel_rfl) rfl ⟨_, rfl, (congrArg Value.bool (decide_eq_true hcols))⟩ (q_ldf rfl hcx0) ?_
        first | refine JD.calc 28 (by kernel_rfl) rfl ⟨_, rfl, (congrArg Value.bool (decide_eq_true hcols))⟩ ss_sub (q_mvv (v := .int _ _) rfl) ?_ | refine JD.calc 28 (by kernel_rfl) rfl ⟨_, rfl, (congrArg Value.bool (decide_eq_true hcols))⟩ ss_sub (q_mv) ?_
        refine JD.calc 29 (by kernel_rfl) rfl ⟨_, rfl, (congrArg Value.bool (decide_eq_true hcols))⟩ ss_sub (q_geq rfl rfl) ?_
        first | refine JD.calc 30 (by kernel_rfl) rfl ⟨_, rfl, (congrArg Value.bool (decide_eq_false (by omega)))⟩ ss_sub (q_pickTv (v := .bool _) rfl (decide_eq_true hcols) rfl) ?_ | refine JD.calc 30 (by kernel_rfl) rfl ⟨_, rfl, (congrArg Value.bool (decide_eq_false (by omega)))⟩ ss_sub (q_pickT rfl (decide_eq_true hcols)) ?_
        first | refine JD.calc 31 (by kernel_rfl) rfl trivial ss_sub (q_pickFv (v := .bool _) rfl (decide_eq_false (by omega)) rfl) ?_ | refine JD.calc 31 (by kernel_rfl) rfl trivial ss_sub (q_pickF rfl (decide_eq_false (by omega))) ?_
        first | refine JD.calc 32 (by kernel_rfl) rfl trivial ss_sub (q_mvv (v := .bool _) rfl) ?_ | refine JD.calc 32 (by kernel_rfl) rfl trivial ss_sub (q_mv) ?_
        first | refine JD.calc 33 (by kernel_rfl) rfl ⟨_, rfl, (congrArg Value.bool (decide_eq_false (by omega)))⟩ ss_sub (q_mvv (v := .int _ _) rfl) ?_ | refine JD.calc 33 (by kernel_rfl) rfl ⟨_, rfl, (congrArg Value.bool (decide_eq_false (by omega)))⟩ ss_sub (q_mv) ?_
        refine JD.calc 34 (by kernel_rfl) rfl ⟨_, rfl, (congrArg Value.bool (decide_eq_false (by omega)))⟩ ss_sub (q_gtr rfl rfl) ?_
        first | refine JD.calc 35 (by kernel_rfl) rfl ⟨_, rfl, (congrArg Value.bool (decide_eq_false (by omega)))⟩ ss_sub (q_mvv (v := .bool _) rfl) ?_ | refine JD.calc 35 (by kernel_rfl) rfl ⟨_, rfl, (congrArg Value.bool (decide_eq_false (by omega)))⟩ ss_sub (q_mv) ?_
        refine JD.pass 36 (by kernel_rfl) rfl rfl (congrArg Value.bool (decide_eq_false (by omega))) ss_sub ?_
        refine JD.pass 37 (by kernel_rfl) rfl rfl (congrArg Value.bool (decide_eq_false (by omega))) ss_sub ?_
        refine JD.pass 38 (by kernel_rfl) rfl rfl (congrArg Value.bool (decide_eq_false (by omega))) ss_sub ?_
        refine JD.pass 39 (by kernel_rfl) rfl rfl (congrArg Value.bool (decide_eq_false (by omega))) ss_sub ?_
        refine JD.pass 40 (by kernel_rfl) rfl rfl (congrArg Value.bool (decide_eq_false (by omega))) ss_sub ?_
        refine JD.pass 41 (by kernel_rfl) rfl rfl (congrArg Value.bool (decide_eq_false (by omega))) ss_sub ?_
        refine JD.pass 42 (by kernel_rfl) rfl rfl (congrArg Value.bool (decide_eq_false (by omega))) ss_sub ?_
        refine JD.pass 43 (by kernel_rfl) rfl rfl (congrArg Value.bool (decide_eq_false (by omega))) ss_sub ?_
        refine JD.pass 44 (by kernel_rfl) rfl rfl (congrArg Value.bool (decide_eq_false (by omega))) ss_sub ?_
        refine JD.pass 45 (by kernel_rfl) rfl rfl (congrArg Value.bool (decide_eq_false (by omega))) ss_sub ?_
        refine JD.pass 46 (by kernel_rfl) rfl rfl (congrArg Value.bool (decide_eq_false (by omega))) ss_sub ?_
        refine JD.pass 47 (by kernel_rfl) rfl rfl (congrArg Value.bool (decide_eq_false (by omega))) ss_sub ?_
        refine JD.calc 48 (by kernel_rfl) rfl ⟨_, rfl, (congrArg Value.bool (decide_eq_false (by omega)))⟩ ss_sub (q_pickF rfl (decide_eq_false (by omega))) ?_
        first | refine JD.calc 49 (by kernel_rfl) rfl trivial ss_sub (q_pickFv (v := .bool _) rfl (decide_eq_false (by omega)) rfl) ?_ | refine JD.calc 49 (by kernel_rfl) rfl trivial ss_sub (q_pickF rfl (decide_eq_false (by omega))) ?_
        refine JD.done (by kernel_rfl) ?_ _
        refine J.condF rfl rfl ?_
        refine J.skip ?_
        refine J.region ?_
        first | refine o_q (q_mvv (v := .int _ _) rfl) ?_ | refine o_q (q_mv) ?_
        refine o_q (q_add (c := ((i + 1 : Nat) : Int)) rfl rfl (by rw [wi64 (by omega)]; omega)) ?_
        first | refine o_q (q_asv (v := .int _ _) rfl) ?_ | refine o_q (q_as) ?_
        refine JL.nil ?_
        exact ⟨i + 1, rfl, ⟨rfl, rfl, trivial⟩, ⟨rfl, trivial⟩, ⟨by omega, (by rw [hI, okRow_step ht, hok, lc_succ ht, Bool.true_and]), by rw [lc_succ ht]; omega, rfl⟩, by omega, inferInstance⟩
      ·
        obtain ⟨t0, ht0⟩ := lt_get (show i - 1 < l.length by omega)
        obtain ⟨ky, oy, qy, ny, ey, hcy0, hcy1, hcy, hny, hmy⟩ := Sls.term hv ht0
        cases ey
        have hprev := lc_prev q5 ht0
        have hok := okTerm_false (last := lc l i) (cols := cols) (t := t) (fun ⟨a, b, c, d⟩ => by omega)
        refine J.drawA [] ?_
        first | refine JD.calc 0 (by kernel_rfl) rfl trivial ss_sub (q_mvv (v := .bool _) rfl) ?_ | refine JD.calc 0 (by kernel_rfl) rfl trivial ss_sub (q_mv) ?_
        refine JD.calc 1 (by kernel_rfl) rfl trivial ss_sub (q_not rfl) ?_
        first | refine JD.calc 2 (by kernel_rfl) rfl trivial ss_sub (q_mvv (v := .bool _) rfl) ?_ | refine JD.calc 2 (by kernel_rfl) rfl trivial ss_sub (q_mv) ?_
        first | refine JD.calc 3 (by kernel_rfl) rfl ⟨_, rfl, (congrArg Value.bool (by rw [q1] <;> rfl))⟩ ss_sub (q_mvv (v := .slice _ _ _) rfl) ?_ | refine JD.calc 3 (by kernel_rfl) rfl ⟨_, rfl, (congrArg Value.bool (by rw [q1] <;> rfl))⟩ ss_sub (q_mv) ?_
        first | refine JD.calc 4 (by kernel_rfl) rfl ⟨_, rfl, (congrArg Value.bool (by rw [q1] <;> rfl))⟩ ss_sub (q_mvv (v := .int _ _) rfl) ?_ | refine JD.calc 4 (by kernel_rfl) rfl ⟨_, rfl, (congrArg Value.bool (by rw [q1] <;> rfl))⟩ ss_sub (q_mv) ?_
        refine JD.calc 5 (by kernel_rfl) rfl ⟨_, rfl, (congrArg Value.bool (by rw [q1] <;> rfl))⟩ ss_sub (q_ia rfl rfl (by omega)) ?_
        refine JD.calc 6 (by kernel_rfl) rfl ⟨_, rfl, (congrArg Value.bool (by rw [q1] <;> rfl))⟩ ss_sub (q_fa rfl) ?_
        refine JD.load 7 (by kernel_rfl) rfl ⟨_, rfl, (congrArg Value.bool (by rw [q1] <;> rfl))⟩ (q_ldfa rfl hcx1) ?_
        refine JD.one 8 (by kernel_rfl) ?_
        refine JX.eff rfl rfl ⟨_, rfl, (congrArg Value.bool (by rw [q1] <;> rfl))⟩ ?_
        refine o_call (signr_fn ⟨_, rfl, hmx.mono⟩ (hT t (List.mem_of_getElem? ht))) (fun v2 hv2 sv2 ev2 => ?_)
        subst ev2
        refine JL.nil ⟨rfl, inferInstance, inferInstance, ?_⟩
        refine JD.calc 9 (by kernel_rfl) rfl ⟨_, rfl, (congrArg Value.bool (by rw [q1] <;> rfl))⟩ ss_sub (q_eql rfl rfl) ?_
        first | refine JD.calc 10 (by kernel_rfl) rfl trivial ss_sub (q_pickFv (v := .bool _) rfl (by rw [q1] <;> rfl) rfl) ?_ | refine JD.calc 10 (by kernel_rfl) rfl trivial ss_sub (q_pickF rfl (by rw [q1] <;> rfl)) ?_
        first | refine JD.calc 11 (by kernel_rfl) rfl trivial ss_sub (q_mvv (v := .bool _) rfl) ?_ | refine JD.calc 11 (by kernel_rfl) rfl trivial ss_sub (q_mv) ?_
        first | refine JD.calc 12 (by kernel_rfl) rfl ⟨_, rfl, (congrArg Value.bool (decide_eq_false q2))⟩ ss_sub (q_mvv (v := .slice _ _ _) rfl) ?_ | refine JD.calc 12 (by kernel_rfl) rfl ⟨_, rfl, (congrArg Value.bool (decide_eq_false q2))⟩ ss_sub (q_mv) ?_
        first | refine JD.calc 13 (by kernel_rfl) rfl ⟨_, rfl, (congrArg Value.bool (decide_eq_false q2))⟩ ss_sub (q_mvv (v := .int _ _) rfl) ?_ | refine JD.calc 13 (by kernel_rfl) rfl ⟨_, rfl, (congrArg Value.bool (decide_eq_false q2))⟩ ss_sub (q_mv) ?_
        refine JD.calc 14 (by kernel_rfl) rfl ⟨_, rfl, (congrArg Value.bool (decide_eq_false q2))⟩ ss_sub (q_ia rfl rfl (by omega)) ?_
        refine JD.calc 15 (by kernel_rfl) rfl ⟨_, rfl, (congrArg Value.bool (decide_eq_false q2))⟩ ss_sub (q_fa rfl) ?_
        refine JD.load 16 (by kernel_rfl) rfl ⟨_, rfl, (congrArg Value.bool (decide_eq_false q2))⟩ (q_ldf rfl hcx0) ?_
        refine JD.calc 17 (by kernel_rfl) rfl ⟨_, rfl, (congrArg Value.bool (decide_eq_false q2))⟩ ss_sub (q_lss rfl rfl) ?_
        first | refine JD.calc 18 (by kernel_rfl) rfl trivial ss_sub (q_pickFv (v := .bool _) rfl (decide_eq_false q2) rfl) ?_ | refine JD.calc 18 (by kernel_rfl) rfl trivial ss_sub (q_pickF rfl (decide_eq_false q2)) ?_
        first | refine JD.calc 19 (by kernel_rfl) rfl trivial ss_sub (q_mvv (v := .bool _) rfl) ?_ | refine JD.calc 19 (by kernel_rfl) rfl trivial ss_sub (q_mv) ?_
        first | refine JD.calc 20 (by kernel_rfl) rfl ⟨_, rfl, (congrArg Value.bool (decide_eq_false (by omega)))⟩ ss_sub (q_mvv (v := .int _ _) rfl) ?_ | refine JD.calc 20 (by kernel_rfl) rfl ⟨_, rfl, (congrArg Value.bool (decide_eq_false (by omega)))⟩ ss_sub (q_mv) ?_
        refine JD.calc 21 (by kernel_rfl) rfl ⟨_, rfl, (congrArg Value.bool (decide_eq_false (by omega)))⟩ ss_sub (q_geq rfl rfl) ?_
        first | refine JD.calc 22 (by kernel_rfl) rfl ⟨_, rfl, (congrArg Value.bool (decide_eq_false (by omega)))⟩ ss_sub (q_mvv (v := .bool _) rfl) ?_ | refine JD.calc 22 (by kernel_rfl) rfl ⟨_, rfl, (congrArg Value.bool (decide_eq_false (by omega)))⟩ ss_sub (q_mv) ?_
        first | refine JD.calc 23 (by kernel_rfl) rfl ⟨_, rfl, (congrArg Value.bool (decide_eq_true hcols))⟩ ss_sub (q_mvv (v := .slice _ _ _) rfl) ?_ | refine JD.calc 23 (by kernel_rfl) rfl ⟨_, rfl, (congrArg Value.bool (decide_eq_true hcols))⟩ ss_sub (q_mv) ?_
        first | refine JD.calc 24 (by kernel_rfl) rfl ⟨_, rfl, (congrArg Value.bool (decide_eq_true hcols))⟩ ss_sub (q_mvv (v := .int _ _) rfl) ?_ | refine JD.calc 24 (by kernel_rfl) rfl ⟨_, rfl, (congrArg Value.bool (decide_eq_true hcols))⟩ ss_sub (q_mv) ?_
        refine JD.calc 25 (by kernel_rfl) rfl ⟨_, rfl, (congrArg Value.bool (decide_eq_true hcols))⟩ ss_sub (q_ia rfl rfl (by omega)) ?_
        refine JD.calc 26 (by kernel_rfl) rfl ⟨_, rfl, (congrArg Value.bool (decide_eq_true hcols))⟩ ss_sub (q_fa rfl) ?_
        refine JD.load 27 (by kernel_rfl) rfl ⟨_, rfl, (congrArg Value.bool (decide_eq_true hcols))⟩ (q_ldf rfl hcx0) ?_
        first | refine JD.calc 28 (by kernel_rfl) rfl ⟨_, rfl, (congrArg Value.bool (decide_eq_true hcols))⟩ ss_sub (q_mvv (v := .int _ _) rfl) ?_ | refine JD.calc 28 (by kernel_rfl) rfl ⟨_, rfl, (congrArg Value.bool (decide_eq_true hcols))⟩ ss_sub (q_mv) ?_
        refine JD.calc 29 (by kernel_rfl) rfl ⟨_, rfl, (congrArg Value.bool (decide_eq_true hcols))⟩ ss_sub (q_geq rfl rfl) ?_
        first | refine JD.calc 30 (by kernel_rfl) rfl ⟨_, rfl, (congrArg Value.bool (decide_eq_false (by omega)))⟩ ss_sub (q_pickTv (v := .bool _) rfl (decide_eq_true hcols) rfl) ?_ | refine JD.calc 30 (by kernel_rfl) rfl ⟨_, rfl, (congrArg Value.bool (decide_eq_false (by omega)))⟩ ss_sub (q_pickT rfl (decide_eq_true hcols)) ?_
        first | refine JD.calc 31 (by kernel_rfl) rfl trivial ss_sub (q_pickFv (v := .bool _) rfl (decide_eq_false (by omega)) rfl) ?_ | refine JD.calc 31 (by kernel_rfl) rfl trivial ss_sub (q_pickF rfl (decide_eq_false (by omega))) ?_
        first | refine JD.calc 32 (by kernel_rfl) rfl trivial ss_sub (q_mvv (v := .bool _) rfl) ?_ | refine JD.calc 32 (by kernel_rfl) rfl trivial ss_sub (q_mv) ?_
        first | refine JD.calc 33 (by kernel_rfl) rfl ⟨_, rfl, (congrArg Value.bool (decide_eq_false (by omega)))⟩ ss_sub (q_mvv (v := .int _ _) rfl) ?_ | refine JD.calc 33 (by kernel_rfl) rfl ⟨_, rfl, (congrArg Value.bool (decide_eq_false (by omega)))⟩ ss_sub (q_mv) ?_
        refine JD.calc 34 (by kernel_rfl) rfl ⟨_, rfl, (congrArg Value.bool (decide_eq_false (by omega)))⟩ ss_sub (q_gtr rfl rfl) ?_
        first | refine JD.calc 35 (by kernel_rfl) rfl ⟨_, rfl, (congrArg Value.bool (decide_eq_false (by omega)))⟩ ss_sub (q_mvv (v := .bool _) rfl) ?_ | refine JD.calc 35 (by kernel_rfl) rfl ⟨_, rfl, (congrArg Value.bool (decide_eq_false (by omega)))⟩ ss_sub (q_mv) ?_
        first | refine JD.calc 36 (by kernel_rfl) rfl ⟨_, rfl, (congrArg Value.bool (decide_eq_true (by omega)))⟩ ss_sub (q_mvv (v := .slice _ _ _) rfl) ?_ | refine JD.calc 36 (by kernel_rfl) rfl ⟨_, rfl, (congrArg Value.bool (decide_eq_true (by omega)))⟩ ss_sub (q_mv) ?_
        first | refine JD.calc 37 (by kernel_rfl) rfl ⟨_, rfl, (congrArg Value.bool (decide_eq_true (by omega)))⟩ ss_sub (q_mvv (v := .int _ _) rfl) ?_ | refine JD.calc 37 (by kernel_rfl) rfl ⟨_, rfl, (congrArg Value.bool (decide_eq_true (by omega)))⟩ ss_sub (q_mv) ?_
        refine JD.calc 38 (by kernel_rfl) rfl ⟨_, rfl, (congrArg Value.bool (decide_eq_true (by omega)))⟩ ss_sub (q_sub (c := ((i - 1 : Nat) : Int)) rfl rfl (by rw [wi64 (by omega)]; omega)) ?_
        refine JD.calc 39 (by kernel_rfl) rfl ⟨_, rfl, (congrArg Value.bool (decide_eq_true (by omega)))⟩ ss_sub (q_ia rfl rfl (by omega)) ?_
        refine JD.calc 40 (by kernel_rfl) rfl ⟨_, rfl, (congrArg Value.bool (decide_eq_true (by omega)))⟩ ss_sub (q_fa rfl) ?_
        refine JD.load 41 (by kernel_rfl) rfl ⟨_, rfl, (congrArg Value.bool (decide_eq_true (by omega)))⟩ (q_ldf rfl hcy0) ?_
        first | refine JD.calc 42 (by kernel_rfl) rfl ⟨_, rfl, (congrArg Value.bool (decide_eq_true (by omega)))⟩ ss_sub (q_mvv (v := .slice _ _ _) rfl) ?_ | refine JD.calc 42 (by kernel_rfl) rfl ⟨_, rfl, (congrArg Value.bool (decide_eq_true (by omega)))⟩ ss_sub (q_mv) ?_
        first | refine JD.calc 43 (by kernel_rfl) rfl ⟨_, rfl, (congrArg Value.bool (decide_eq_true (by omega)))⟩ ss_sub (q_mvv (v := .int _ _) rfl) ?_ | refine JD.calc 43 (by kernel_rfl) rfl ⟨_, rfl, (congrArg Value.bool (decide_eq_true (by omega)))⟩ ss_sub (q_mv) ?_
        refine JD.calc 44 (by kernel_rfl) rfl ⟨_, rfl, (congrArg Value.bool (decide_eq_true (by omega)))⟩ ss_sub (q_ia rfl rfl (by omega)) ?_
        refine JD.calc 45 (by kernel_rfl) rfl ⟨_, rfl, (congrArg Value.bool (decide_eq_true (by omega)))⟩ ss_sub (q_fa rfl) ?_
        refine JD.load 46 (by kernel_rfl) rfl ⟨_, rfl, (congrArg Value.bool (decide_eq_true (by omega)))⟩ (q_ldf rfl hcx0) ?_
        refine JD.calc 47 (by kernel_rfl) rfl ⟨_, rfl, (congrArg Value.bool (decide_eq_true (by omega)))⟩ ss_sub (q_geq rfl rfl) ?_
        first | refine JD.calc 48 (by kernel_rfl) rfl ⟨_, rfl, (congrArg Value.bool (decide_eq_false (by omega)))⟩ ss_sub (q_pickTv (v := .bool _) rfl (decide_eq_true (by omega)) rfl) ?_ | refine JD.calc 48 (by kernel_rfl) rfl ⟨_, rfl, (congrArg Value.bool (decide_eq_false (by omega)))⟩ ss_sub (q_pickT rfl (decide_eq_true (by omega))) ?_
        first | refine JD.calc 49 (by kernel_rfl) rfl trivial ss_sub (q_pickFv (v := .bool _) rfl (decide_eq_false (by omega)) rfl) ?_ | refine JD.calc 49 (by kernel_rfl) rfl trivial ss_sub (q_pickF rfl (decide_eq_false (by omega))) ?_
        refine JD.done (by kernel_rfl) ?_ _
        refine J.condT rfl (decide_eq_true (by omega)) ?_
        refine J.seq ?_
        refine J.region ?_
        refine o_q (q_as) ?_
        refine JL.nil ?_
        refine J.ret ?_
        exact ret_ok (fn := Try.f16) rfl (.tmp rfl .nil) (by rw [hI, okRow_step ht, hok] <;> rfl)
      ·
        obtain ⟨t0, ht0⟩ := lt_get (show i - 1 < l.length by omega)
        obtain ⟨ky, oy, qy, ny, ey, hcy0, hcy1, hcy, hny, hmy⟩ := Sls.term hv ht0
        cases ey
        have hprev := lc_prev q5 ht0
        have hok := okTerm_true (last := lc l i) (cols := cols) (t := t) ⟨q6, q4, q1, q2⟩
        refine J.drawA [] ?_
        first | refine JD.calc 0 (by kernel_rfl) rfl trivial ss_sub (q_mvv (v := .bool _) rfl) ?_ | refine JD.calc 0 (by kernel_rfl) rfl trivial ss_sub (q_mv) ?_
        refine JD.calc 1 (by kernel_rfl) rfl trivial ss_sub (q_not rfl) ?_
        first | refine JD.calc 2 (by kernel_rfl) rfl trivial ss_sub (q_mvv (v := .bool _) rfl) ?_ | refine JD.calc 2 (by kernel_rfl) rfl trivial ss_sub (q_mv) ?_
        first | refine JD.calc 3 (by kernel_rfl) rfl ⟨_, rfl, (congrArg Value.bool (by rw [q1] <;> rfl))⟩ ss_sub (q_mvv (v := .slice _ _ _) rfl) ?_ | refine JD.calc 3 (by kernel_rfl) rfl ⟨_, rfl, (congrArg Value.bool (by rw [q1] <;> rfl))⟩ ss_sub (q_mv) ?_
        first | refine JD.calc 4 (by kernel_rfl) rfl ⟨_, rfl, (congrArg Value.bool (by rw [q1] <;> rfl))⟩ ss_sub (q_mvv (v := .int _ _) rfl) ?_ | refine JD.calc 4 (by kernel_rfl) rfl ⟨_, rfl, (congrArg Value.bool (by rw [q1] <;> rfl))⟩ ss_sub (q_mv) ?_
        refine JD.calc 5 (by kernel_rfl) rfl ⟨_, rfl, (congrArg Value.bool (by rw [q1] <;> rfl))⟩ ss_sub (q_ia rfl rfl (by omega)) ?_
        refine JD.calc 6 (by kernel_rfl) rfl ⟨_, rfl, (congrArg Value.bool (by rw [q1] <;> rfl))⟩ ss_sub (q_fa rfl) ?_
        refine JD.load 7 (by kernel_rfl) rfl ⟨_, rfl, (congrArg Value.bool (by rw [q1] <;> rfl))⟩ (q_ldfa rfl hcx1) ?_
        refine JD.one 8 (by kernel_rfl) ?_
        refine JX.eff rfl rfl ⟨_, rfl, (congrArg Value.bool (by rw [q1] <;> rfl))⟩ ?_
        refine o_call (signr_fn ⟨_, rfl, hmx.mono⟩ (hT t (List.mem_of_getElem? ht))) (fun v2 hv2 sv2 ev2 => ?_)
        subst ev2
        refine JL.nil ⟨rfl, inferInstance, inferInstance, ?_⟩
        refine JD.calc 9 (by kernel_rfl) rfl ⟨_, rfl, (congrArg Value.bool (by rw [q1] <;> rfl))⟩ ss_sub (q_eql rfl rfl) ?_
        first | refine JD.calc 10 (by kernel_rfl) rfl trivial ss_sub (q_pickFv (v := .bool _) rfl (by rw [q1] <;> rfl) rfl) ?_ | refine JD.calc 10 (by kernel_rfl) rfl trivial ss_sub (q_pickF rfl (by rw [q1] <;> rfl)) ?_
        first | refine JD.calc 11 (by kernel_rfl) rfl trivial ss_sub (q_mvv (v := .bool _) rfl) ?_ | refine JD.calc 11 (by kernel_rfl) rfl trivial ss_sub (q_mv) ?_
        first | refine JD.calc 12 (by kernel_rfl) rfl ⟨_, rfl, (congrArg Value.bool (decide_eq_false q2))⟩ ss_sub (q_mvv (v := .slice _ _ _) rfl) ?_ | refine JD.calc 12 (by kernel_rfl) rfl ⟨_, rfl, (congrArg Value.bool (decide_eq_false q2))⟩ ss_sub (q_mv) ?_
        first | refine JD.calc 13 (by kernel_rfl) rfl ⟨_, rfl, (congrArg Value.bool (decide_eq_false q2))⟩ ss_sub (q_mvv (v := .int _ _) rfl) ?_ | refine JD.calc 13 (by kernel_rfl) rfl ⟨_, rfl, (congrArg Value.bool (decide_eq_false q2))⟩ ss_sub (q_mv) ?_
        refine JD.calc 14 (by kernel_rfl) rfl ⟨_, rfl, (congrArg Value.bool (decide_eq_false q2))⟩ ss_sub (q_ia rfl rfl (by omega)) ?_
        refine JD.calc 15 (by kernel_rfl) rfl ⟨_, rfl, (congrArg Value.bool (decide_eq_false q2))⟩ ss_sub (q_fa rfl) ?_
        refine JD.load 16 (by kernel_rfl) rfl ⟨_, rfl, (congrArg Value.bool (decide_eq_false q2))⟩ (q_ldf rfl hcx0) ?_
        refine JD.calc 17 (by kernel_rfl) rfl ⟨_, rfl, (congrArg Value.bool (decide_eq_false q2))⟩ ss_sub (q_lss rfl rfl) ?_
        first | refine JD.calc 18 (by kernel_rfl) rfl trivial ss_sub (q_pickFv (v := .bool _) rfl (decide_eq_false q2) rfl) ?_ | refine JD.calc 18 (by kernel_rfl) rfl trivial ss_sub (q_pickF rfl (decide_eq_false q2)) ?_
        first | refine JD.calc 19 (by kernel_rfl) rfl trivial ss_sub (q_mvv (v := .bool _) rfl) ?_ | refine JD.calc 19 (by kernel_rfl) rfl trivial ss_sub (q_mv) ?_
        first | refine JD.calc 20 (by kernel_rfl) rfl ⟨_, rfl, (congrArg Value.bool (decide_eq_false (by omega)))⟩ ss_sub (q_mvv (v := .int _ _) rfl) ?_ | refine JD.calc 20 (by kernel_rfl) rfl ⟨_, rfl, (congrArg Value.bool (decide_eq_false (by omega)))⟩ ss_sub (q_mv) ?_
        refine JD.calc 21 (by kernel_rfl) rfl ⟨_, rfl, (congrArg Value.bool (decide_eq_false (by omega)))⟩ ss_sub (q_geq rfl rfl) ?_
        first | refine JD.calc 22 (by kernel_rfl) rfl ⟨_, rfl, (congrArg Value.bool (decide_eq_false (by omega)))⟩ ss_sub (q_mvv (v := .bool _) rfl) ?_ | refine JD.calc 22 (by kernel_rfl) rfl ⟨_, rfl, (congrArg Value.bool (decide_eq_false (by omega)))⟩ ss_sub (q_mv) ?_
        first | refine JD.calc 23 (by kernel_rfl) rfl ⟨_, rfl, (congrArg Value.bool (decide_eq_true hcols))⟩ ss_sub (q_mvv (v := .slice _ _ _) rfl) ?_ | refine JD.calc 23 (by kernel_rfl) rfl ⟨_, rfl, (congrArg Value.bool (decide_eq_true hcols))⟩ ss_sub (q_mv) ?_
        first | refine JD.calc 24 (by kernel_rfl) rfl ⟨_, rfl, (congrArg Value.bool (decide_eq_true hcols))⟩ ss_sub (q_mvv (v := .int _ _) rfl) ?_ | refine JD.calc 24 (by kernel_rfl) rfl ⟨_, rfl, (congrArg Value.bool (decide_eq_true hcols))⟩ ss_sub (q_mv) ?_
        refine JD.calc 25 (by kernel_rfl) rfl ⟨_, rfl, (congrArg Value.bool (decide_eq_true hcols))⟩ ss_sub (q_ia rfl rfl (by omega)) ?_
        refine JD.calc 26 (by kernel_rfl) rfl ⟨_, rfl, (congrArg Value.bool (decide_eq_true hcols))⟩ ss_sub (q_fa rfl) ?_
        refine JD.load 27 (by kernel_rfl) rfl ⟨_, rfl, (congrArg Value.bool (decide_eq_true hcols))⟩ (q_ldf rfl hcx0) ?_
        first | refine JD.calc 28 (by kernel_rfl) rfl ⟨_, rfl, (congrArg Value.bool (decide_eq_true hcols))⟩ ss_sub (q_mvv (v := .int _ _) rfl) ?_ | refine JD.calc 28 (by kernel_rfl) rfl ⟨_, rfl, (congrArg Value.bool (decide_eq_true hcols))⟩ ss_sub (q_mv) ?_
        refine JD.calc 29 (by kernel_rfl) rfl ⟨_, rfl, (congrArg Value.bool (decide_eq_true hcols))⟩ ss_sub (q_geq rfl rfl) ?_
        first | refine JD.calc 30 (by kernel_rfl) rfl ⟨_, rfl, (congrArg Value.bool (decide_eq_false (by omega)))⟩ ss_sub (q_pickTv (v := .bool _) rfl (decide_eq_true hcols) rfl) ?_ | refine JD.calc 30 (by kernel_rfl) rfl ⟨_, rfl, (congrArg Value.bool (decide_eq_false (by omega)))⟩ ss_sub (q_pickT rfl (decide_eq_true hcols)) ?_
        first | refine JD.calc 31 (by kernel_rfl) rfl trivial ss_sub (q_pickFv (v := .bool _) rfl (decide_eq_false (by omega)) rfl) ?_ | refine JD.calc 31 (by kernel_rfl) rfl trivial ss_sub (q_pickF rfl (decide_eq_false (by omega))) ?_
        first | refine JD.calc 32 (by kernel_rfl) rfl trivial ss_sub (q_mvv (v := .bool _) rfl) ?_ | refine JD.calc 32 (by kernel_rfl) rfl trivial ss_sub (q_mv) ?_
        first | refine JD.calc 33 (by kernel_rfl) rfl ⟨_, rfl, (congrArg Value.bool (decide_eq_false (by omega)))⟩ ss_sub (q_mvv (v := .int _ _) rfl) ?_ | refine JD.calc 33 (by kernel_rfl) rfl ⟨_, rfl, (congrArg Value.bool (decide_eq_false (by omega)))⟩ ss_sub (q_mv) ?_
        refine JD.calc 34 (by kernel_rfl) rfl ⟨_, rfl, (congrArg Value.bool (decide_eq_false (by omega)))⟩ ss_sub (q_gtr rfl rfl) ?_
        first | refine JD.calc 35 (by kernel_rfl) rfl ⟨_, rfl, (congrArg Value.bool (decide_eq_false (by omega)))⟩ ss_sub (q_mvv (v := .bool _) rfl) ?_ | refine JD.calc 35 (by kernel_rfl) rfl ⟨_, rfl, (congrArg Value.bool (decide_eq_false (by omega)))⟩ ss_sub (q_mv) ?_
        first | refine JD.calc 36 (by kernel_rfl) rfl ⟨_, rfl, (congrArg Value.bool (decide_eq_true (by omega)))⟩ ss_sub (q_mvv (v := .slice _ _ _) rfl) ?_ | refine JD.calc 36 (by kernel_rfl) rfl ⟨_, rfl, (congrArg Value.bool (decide_eq_true (by omega)))⟩ ss_sub (q_mv) ?_
        first | refine JD.calc 37 (by kernel_rfl) rfl ⟨_, rfl, (congrArg Value.bool (decide_eq_true (by omega)))⟩ ss_sub (q_mvv (v := .int _ _) rfl) ?_ | refine JD.calc 37 (by kernel_rfl) rfl ⟨_, rfl, (congrArg Value.bool (decide_eq_true (by omega)))⟩ ss_sub (q_mv) ?_
        refine JD.calc 38 (by kernel_rfl) rfl ⟨_, rfl, (congrArg Value.bool (decide_eq_true (by omega)))⟩ ss_sub (q_sub (c := ((i - 1 : Nat) : Int)) rfl rfl (by rw [wi64 (by omega)]; omega)) ?_
        refine JD.calc 39 (by kernel_rfl) rfl ⟨_, rfl, (congrArg Value.bool (decide_eq_true (by omega)))⟩ ss_sub (q_ia rfl rfl (by omega)) ?_
        refine JD.calc 40 (by kernel_rfl) rfl ⟨_, rfl, (congrArg Value.bool (decide_eq_true (by omega)))⟩ ss_sub (q_fa rfl) ?_
        refine JD.load 41 (by kernel_rfl) rfl ⟨_, rfl, (congrArg Value.bool (decide_eq_true (by omega)))⟩ (q_ldf rfl hcy0) ?_
        first | refine JD.calc 42 (by kernel_rfl) rfl ⟨_, rfl, (congrArg Value.bool (decide_eq_true (by omega)))⟩ ss_sub (q_mvv (v := .slice _ _ _) rfl) ?_ | refine JD.calc 42 (by kernel_rfl) rfl ⟨_, rfl, (congrArg Value.bool (decide_eq_true (by omega)))⟩ ss_sub (q_mv) ?_
        first | refine JD.calc 43 (by kernel_rfl) rfl ⟨_, rfl, (congrArg Value.bool (decide_eq_true (by omega)))⟩ ss_sub (q_mvv (v := .int _ _) rfl) ?_ | refine JD.calc 43 (by kernel_rfl) rfl ⟨_, rfl, (congrArg Value.bool (decide_eq_true (by omega)))⟩ ss_sub (q_mv) ?_
        refine JD.calc 44 (by kernel_rfl) rfl ⟨_, rfl, (congrArg Value.bool (decide_eq_true (by omega)))⟩ ss_sub (q_ia rfl rfl (by omega)) ?_
        refine JD.calc 45 (by kernel_rfl) rfl ⟨_, rfl, (congrArg Value.bool (decide_eq_true (by omega)))⟩ ss_sub (q_fa rfl) ?_
        refine JD.load 46 (by kernel_rfl) rfl ⟨_, rfl, (congrArg Value.bool (decide_eq_true (by omega)))⟩ (q_ldf rfl hcx0) ?_
        refine JD.calc 47 (by kernel_rfl) rfl ⟨_, rfl, (congrArg Value.bool (decide_eq_true (by omega)))⟩ ss_sub (q_geq rfl rfl) ?_
        first | refine JD.calc 48 (by kernel_rfl) rfl ⟨_, rfl, (congrArg Value.bool (decide_eq_false (by omega)))⟩ ss_sub (q_pickTv (v := .bool _) rfl (decide_eq_true (by omega)) rfl) ?_ | refine JD.calc 48 (by kernel_rfl) rfl ⟨_, rfl, (congrArg Value.bool (decide_eq_false (by omega)))⟩ ss_sub (q_pickT rfl (decide_eq_true (by omega))) ?_
        first | refine JD.calc 49 (by kernel_rfl) rfl trivial ss_sub (q_pickFv (v := .bool _) rfl (decide_eq_false (by omega)) rfl) ?_ | refine JD.calc 49 (by kernel_rfl) rfl trivial ss_sub (q_pickF rfl (decide_eq_false (by omega))) ?_
        refine JD.done (by kernel_rfl) ?_ _
        refine J.condF rfl (decide_eq_false (by omega)) ?_
        refine J.skip ?_
        refine J.region ?_
        first | refine o_q (q_mvv (v := .int _ _) rfl) ?_ | refine o_q (q_mv) ?_
        refine o_q (q_add (c := ((i + 1 : Nat) : Int)) rfl rfl (by rw [wi64 (by omega)]; omega)) ?_
        first | refine o_q (q_asv (v := .int _ _) rfl) ?_ | refine o_q (q_as) ?_
        refine JL.nil ?_
        exact ⟨i + 1, rfl, ⟨rfl, rfl, trivial⟩, ⟨rfl, trivial⟩, ⟨by omega, (by rw [hI, okRow_step ht, hok, lc_succ ht, Bool.true_and]), by rw [lc_succ ht]; omega, rfl⟩, by omega, inferInstance⟩
    ·
      refine J.exit ?_
      exact ⟨(), rfl, trivial, trivial, ⟨(by rw [hI, List.drop_of_length_le (by omega)] <;> rfl), rfl⟩, inferInstance⟩
  ·
    rintro _ σ9 h9 L9 s9 ⟨hok, rfl⟩
    refine J.seq ?_
    refine J.region ?_
    refine o_q (q_as) ?_
    refine JL.nil ?_
    refine J.ret ?_
    exact ret_ok (fn := Try.f16) rfl (.tmp rfl .nil) (by rw [hok] <;> rfl)
end Go.Z
end
section
set_option linter.unusedSimpArgs false
set_option linter.unusedVariables false
/- The functions of the sparse matrices and of their reference that look at rows: validity, equality, counting. -/
set_option linter.unusedSimpArgs false
set_option linter.unusedVariables false
namespace Go.Z
open Go Go.RowKit Go.Proofs
theorem three (rows cols len : Int) : rows ≠ len ∨ (rows = len ∧ cols < 0) ∨ (rows = len ∧ 0 ≤ cols) := by omega
theorem validS_not1 {rows cols : Int} {L : List (List RT)} (h : rows ≠ L.length) : validS rows cols L = false := by simp [validS, h]
theorem validS_not2 {rows cols : Int} {L : List (List RT)} (h : cols < 0) : validS rows cols L = false := by simp [validS]; omega
theorem validS_eq {rows cols : Int} {L : List (List RT)} (h : rows = L.length) (h2 : 0 ≤ cols) : validS rows cols L = okAll cols L := by simp [validS, h, h2]
theorem valids_ref {h : Heap} {v : Value} {rows cols : Int} {L : List (List RT)} (hv : SparseAt h v rows cols L) (hN : L.length ≤ 1000000) (hNr : ∀ r ∈ L, r.length ≤ 1000000) (hT : ∀ r ∈ L, ∀ t ∈ r, t.2.2.length ≤ 9223372036854775807) :
    Fn Try.prog 11 #[v] h fun r _ => r = .bool (validS rows cols L) := by
  obtain ⟨p, c, rfl, hL⟩ := hv
  refine Fn.intro (args := [_]) Try.func11 rfl rfl (Nat.le_of_ble_eq_true rfl) fun w => ?_
  refine J.seq ?_
  refine J.region ?_
  first | refine o_bx (v := .agg _) rfl rfl (fun b1 => ?_) | refine o_bx rfl rfl (fun b1 => ?_)
  refine o_q (q_as) ?_
  refine JL.nil ?_
  refine J.seq ?_
  refine J.seq ?_
  rcases three rows cols (L.length : Int) with q1 | ⟨q1, q2⟩ | ⟨q1, q2⟩
  ·
    refine J.region ?_
    refine o_q (q_fa rfl) ?_
    refine o_q (q_ld rfl inferInstance rfl) ?_
    refine o_q (q_fa rfl) ?_
    refine o_q (q_ld rfl inferInstance rfl) ?_
    refine o_q (q_len rfl) ?_
    refine o_q (q_neq rfl rfl) ?_
    first | refine o_q (q_mvv (v := .bool _) rfl) ?_ | refine o_q (q_mv) ?_
    refine JL.guardF rfl rfl (decide_eq_true q1) rfl ?_
    refine JL.guardF rfl rfl (decide_eq_true q1) rfl ?_
    refine JL.guardF rfl rfl (decide_eq_true q1) rfl ?_
    refine o_q (q_pickT rfl (decide_eq_true q1)) ?_
    refine JL.nil ?_
    refine J.condT rfl rfl ?_
    refine J.seq ?_
    refine J.region ?_
    refine o_q (q_as) ?_
    refine JL.nil ?_
    refine J.ret ?_
    exact ret_ok (fn := Try.f11) rfl (.tmp rfl .nil) (by rw [validS_not1 q1] <;> rfl)
  ·
    refine J.region ?_
    refine o_q (q_fa rfl) ?_
    refine o_q (q_ld rfl inferInstance rfl) ?_
    refine o_q (q_fa rfl) ?_
    refine o_q (q_ld rfl inferInstance rfl) ?_
    refine o_q (q_len rfl) ?_
    refine o_q (q_neq rfl rfl) ?_
    first | refine o_q (q_mvv (v := .bool _) rfl) ?_ | refine o_q (q_mv) ?_
    refine JL.guardT rfl rfl (decide_eq_false (by omega)) ?_
    refine o_q (q_fa rfl) ?_
    refine JL.guardT rfl rfl (decide_eq_false (by omega)) ?_
    refine o_q (q_ld rfl inferInstance rfl) ?_
    refine JL.guardT rfl rfl (decide_eq_false (by omega)) ?_
    refine o_q (q_lss rfl rfl) ?_
    first | refine o_q (q_pickFv (v := .bool _) rfl (decide_eq_false (by omega)) rfl) ?_ | refine o_q (q_pickF rfl (decide_eq_false (by omega))) ?_
    refine JL.nil ?_
    refine J.condT rfl (decide_eq_true q2) ?_
    refine J.seq ?_
    refine J.region ?_
    refine o_q (q_as) ?_
    refine JL.nil ?_
    refine J.ret ?_
    exact ret_ok (fn := Try.f11) rfl (.tmp rfl .nil) (by rw [validS_not2 q2] <;> rfl)
  ·
    rw [validS_eq q1 q2]
    refine J.region ?_
    refine o_q (q_fa rfl) ?_
    refine o_q (q_ld rfl inferInstance rfl) ?_
    refine o_q (q_fa rfl) ?_
    refine o_q (q_ld rfl inferInstance rfl) ?_
    refine o_q (q_len rfl) ?_
    refine o_q (q_neq rfl rfl) ?_
    first | refine o_q (q_mvv (v := .bool _) rfl) ?_ | refine o_q (q_mv) ?_
    refine JL.guardT rfl rfl (decide_eq_false (by omega)) ?_
    refine o_q (q_fa rfl) ?_
    refine JL.guardT rfl rfl (decide_eq_false (by omega)) ?_
    refine o_q (q_ld rfl inferInstance rfl) ?_
    refine JL.guardT rfl rfl (decide_eq_false (by omega)) ?_
    refine o_q (q_lss rfl rfl) ?_
    first | refine o_q (q_pickFv (v := .bool _) rfl (decide_eq_false (by omega)) rfl) ?_ | refine o_q (q_pickF rfl (decide_eq_false (by omega))) ?_
    refine JL.nil ?_
    refine J.condF rfl (decide_eq_false (by omega)) ?_
    refine J.skip ?_
    -- cut: kept [], said []
    first | refine J.cutK (α := Unit) (fun _ h' L' => okAll cols L = true ∧ [(b1, row 24 [.int .i64 rows, .int .i64 cols, .slice p L.length c])] = L') [] trivial (fun _ => []) ?_ ?_ | refine J.cutK (α := Unit) (fun _ h' L' => okAll cols L = true ∧ [(b1, row 24 [.int .i64 rows, .int .i64 cols, .slice p L.length c])] = L') [] trivial (fun _ => []) ?_ ?_
    ·
      refine J.seq ?_
      refine J.region ?_
      refine o_q (q_as) ?_
      refine JL.nil ?_
      refine J.block ?_
      -- loop 0: kept [1], said [3]
      first | refine J.loopK (α := Nat) (fun i h' L' => i ≤ L.length ∧ okAll cols L = okAll cols (L.drop i) ∧ [(b1, row 24 [.int .i64 rows, .int .i64 cols, .slice p L.length c])] = L') [(1, .pointer _)] ⟨rfl, trivial⟩ (fun i => [(3, .int .i64 (i : Int))]) (fun i => L.length - i) (0) ⟨by omega, rfl, rfl⟩ ⟨rfl, trivial⟩ ?_ | refine J.loopK (α := Nat) (fun i h' L' => i ≤ L.length ∧ okAll cols L = okAll cols (L.drop i) ∧ [(b1, row 24 [.int .i64 rows, .int .i64 cols, .slice p L.length c])] = L') [(1, _)] ⟨rfl, trivial⟩ (fun i => [(3, .int .i64 (i : Int))]) (fun i => L.length - i) (0) ⟨by omega, rfl, rfl⟩ ⟨rfl, trivial⟩ ?_
      rintro i σ h1 L1 s1 ⟨hi, hI, rfl⟩
      refine J.seq ?_
      refine J.seq ?_
      refine J.region ?_
      first | refine o_q (q_mvv (v := .int _ _) rfl) ?_ | refine o_q (q_mv) ?_
      refine o_q (q_fa rfl) ?_
      refine o_q (q_ld rfl inferInstance rfl) ?_
      refine o_q (q_len rfl) ?_
      refine o_q (q_lss rfl rfl) ?_
      refine JL.nil ?_
      refine J.condD rfl (fun c1 => ?_) (fun c1 => ?_)
      ·
        obtain ⟨r, hr⟩ := lt_get (show i < L.length by omega)
        obtain ⟨kr, or1, qr, mr, nr, rfl, hcr, hrr⟩ := Sls.row hL hr
        have hrm := List.mem_of_getElem? hr
        refine J.skip ?_
        refine J.seq ?_
        refine J.block ?_
        refine J.seq ?_
        refine J.drawA [] ?_
        refine JD.calc 0 (by kernel_rfl) rfl trivial ss_sub (q_fa rfl) ?_
        refine JD.load 1 (by kernel_rfl) rfl trivial (q_ld rfl inferInstance rfl) ?_
        first | refine JD.calc 2 (by kernel_rfl) rfl trivial ss_sub (q_mvv (v := .int _ _) rfl) ?_ | refine JD.calc 2 (by kernel_rfl) rfl trivial ss_sub (q_mv) ?_
        refine JD.calc 3 (by kernel_rfl) rfl trivial ss_sub (q_ia rfl rfl (by omega)) ?_
        refine JD.load 4 (by kernel_rfl) rfl trivial (q_ldf rfl hcr) ?_
        refine JD.calc 5 (by kernel_rfl) rfl trivial ss_sub (q_fa rfl) ?_
        refine JD.load 6 (by kernel_rfl) rfl trivial (q_ld rfl inferInstance rfl) ?_
        refine JD.one 7 (by kernel_rfl) ?_
        refine JX.eff rfl rfl trivial ?_
        refine o_call (validrow_fn hrr.mono q2 (hNr r hrm) (hT r hrm)) (fun v1 hv1 sv1 ev1 => ?_)
        subst ev1
        refine JL.nil ⟨rfl, inferInstance, inferInstance, ?_⟩
        first | refine JD.calc 8 (by kernel_rfl) rfl trivial ss_sub (q_asv (v := .bool _) rfl) ?_ | refine JD.calc 8 (by kernel_rfl) rfl trivial ss_sub (q_as) ?_
        refine JD.done (by kernel_rfl) ?_ _
        refine J.seq ?_
        refine J.region ?_
        first | refine o_q (q_mvv (v := .bool _) rfl) ?_ | refine o_q (q_mv) ?_
        refine o_q (q_not rfl) ?_
        refine JL.nil ?_
        refine J.cond rfl (fun c2 => ?_) (fun c2 => ?_)
        ·
          refine J.seq ?_
          refine J.region ?_
          refine o_q (q_as) ?_
          refine JL.nil ?_
          refine J.ret ?_
          exact ret_ok (fn := Try.f11) rfl (.tmp rfl .nil) (by rw [hI, okAll_step hr, show okRow (-1) cols r = false by simpa using c2] <;> rfl)
        ·
          refine J.skip ?_
          refine J.region ?_
          first | refine o_q (q_mvv (v := .int _ _) rfl) ?_ | refine o_q (q_mv) ?_
          refine o_q (q_add (c := ((i + 1 : Nat) : Int)) rfl rfl (by rw [wi64 (by omega)]; omega)) ?_
          first | refine o_q (q_asv (v := .int _ _) rfl) ?_ | refine o_q (q_as) ?_
          refine JL.nil ?_
          exact ⟨i + 1, rfl, ⟨rfl, trivial⟩, ⟨rfl, trivial⟩, ⟨by omega, (by rw [hI, okAll_step hr, show okRow (-1) cols r = true by simpa using c2, Bool.true_and]), rfl⟩, by omega, inferInstance⟩
      ·
        refine J.exit ?_
        exact ⟨(), rfl, trivial, trivial, ⟨(by rw [hI, List.drop_of_length_le (by omega)] <;> rfl), rfl⟩, inferInstance⟩
    ·
      rintro _ σ9 h9 L9 s9 ⟨hok, rfl⟩
      refine J.seq ?_
      refine J.region ?_
      refine o_q (q_as) ?_
      refine JL.nil ?_
      refine J.ret ?_
      exact ret_ok (fn := Try.f11) rfl (.tmp rfl .nil) (by rw [hok] <;> rfl)
set_option maxHeartbeats 4000000 in
theorem valids_fn {h : Heap} {v : Value} {rows cols : Int} {L : List (List RT)} (hv : SparseAt h v rows cols L) (hN : L.length ≤ 1000000) (hNr : ∀ r ∈ L, r.length ≤ 1000000) (hT : ∀ r ∈ L, ∀ t ∈ r, t.2.2.length ≤ 9223372036854775807) :
    Fn Try.prog 10 #[v] h fun r _ => r = .bool (validS rows cols L) := by
  obtain ⟨p, c, rfl, hL⟩ := hv
  refine Fn.intro (args := [_]) Try.func10 rfl rfl (Nat.le_of_ble_eq_true rfl) fun w => ?_
  refine J.seq ?_
  refine J.region ?_
  first | refine o_bx (v := .agg _) rfl rfl (fun b1 => ?_) | refine o_bx rfl rfl (fun b1 => ?_)
  refine o_q (q_as) ?_
  refine JL.nil ?_
  refine J.seq ?_
  refine J.seq ?_
  rcases three rows cols (L.length : Int) with q1 | ⟨q1, q2⟩ | ⟨q1, q2⟩
  ·
    refine J.region ?_
    refine o_q (q_fa rfl) ?_
    refine o_q (q_ld rfl inferInstance rfl) ?_
    refine o_q (q_fa rfl) ?_
    refine o_q (q_ld rfl inferInstance rfl) ?_
    refine o_q (q_len rfl) ?_
    refine o_q (q_neq rfl rfl) ?_
    first | refine o_q (q_mvv (v := .bool _) rfl) ?_ | refine o_q (q_mv) ?_
    refine JL.guardF rfl rfl (decide_eq_true q1) rfl ?_
    refine JL.guardF rfl rfl (decide_eq_true q1) rfl ?_
    refine JL.guardF rfl rfl (decide_eq_true q1) rfl ?_
    refine o_q (q_pickT rfl (decide_eq_true q1)) ?_
    refine JL.nil ?_
    refine J.condT rfl rfl ?_
    refine J.seq ?_
    refine J.region ?_
    refine o_q (q_as) ?_
    refine JL.nil ?_
    refine J.ret ?_
    exact ret_ok (fn := Try.f10) rfl (.tmp rfl .nil) (by rw [validS_not1 q1] <;> rfl)
  ·
    refine J.region ?_
    refine o_q (q_fa rfl) ?_
    refine o_q (q_ld rfl inferInstance rfl) ?_
    refine o_q (q_fa rfl) ?_
    refine o_q (q_ld rfl inferInstance rfl) ?_
    refine o_q (q_len rfl) ?_
    refine o_q (q_neq rfl rfl) ?_
    first | refine o_q (q_mvv (v := .bool _) rfl) ?_ | refine o_q (q_mv) ?_
    refine JL.guardT rfl rfl (decide_eq_false (by omega)) ?_
    refine o_q (q_fa rfl) ?_
    refine JL.guardT rfl rfl (decide_eq_false (by omega)) ?_
    refine o_q (q_ld rfl inferInstance rfl) ?_
    refine JL.guardT rfl rfl (decide_eq_false (by omega)) ?_
    refine o_q (q_lss rfl rfl) ?_
    first | refine o_q (q_pickFv (v := .bool _) rfl (decide_eq_false (by omega)) rfl) ?_ | refine o_q (q_pickF rfl (decide_eq_false (by omega))) ?_
    refine JL.nil ?_
    refine J.condT rfl (decide_eq_true q2) ?_
    refine J.seq ?_
    refine J.region ?_
    refine o_q (q_as) ?_
    refine JL.nil ?_
    refine J.ret ?_
    exact ret_ok (fn := Try.f10) rfl (.tmp rfl .nil) (by rw [validS_not2 q2] <;> rfl)
  ·
    rw [validS_eq q1 q2]
    refine J.region ?_
    refine o_q (q_fa rfl) ?_
    refine o_q (q_ld rfl inferInstance rfl) ?_
    refine o_q (q_fa rfl) ?_
    refine o_q (q_ld rfl inferInstance rfl) ?_
    refine o_q (q_len rfl) ?_
    refine o_q (q_neq rfl rfl) ?_
    first | refine o_q (q_mvv (v := .bool _) rfl) ?_ | refine o_q (q_mv) ?_
    refine JL.guardT rfl rfl (decide_eq_false (by omega)) ?_
    refine o_q (q_fa rfl) ?_
    refine JL.guardT rfl rfl (decide_eq_false (by omega)) ?_
    refine o_q (q_ld rfl inferInstance rfl) ?_
    refine JL.guardT rfl rfl (decide_eq_false (by omega)) ?_
    refine o_q (q_lss rfl rfl) ?_
    first | refine o_q (q_pickFv (v := .bool _) rfl (decide_eq_false (by omega)) rfl) ?_ | refine o_q (q_pickF rfl (decide_eq_false (by omega))) ?_
    refine JL.nil ?_
    refine J.condF rfl (decide_eq_false (by omega)) ?_
    refine J.skip ?_
    -- cut: kept [], said []
    first | refine J.cutK (α := Unit) (fun _ h' L' => okAll cols L = true ∧ [(b1, row 24 [.int .i64 rows, .int .i64 cols, .slice p L.length c])] = L') [] trivial (fun _ => []) ?_ ?_ | refine J.cutK (α := Unit) (fun _ h' L' => okAll cols L = true ∧ [(b1, row 24 [.int .i64 rows, .int .i64 cols, .slice p L.length c])] = L') [] trivial (fun _ => []) ?_ ?_
    ·
      refine J.seq ?_
      refine J.region ?_
      refine o_q (q_fa rfl) ?_
      refine o_q (q_ld rfl inferInstance rfl) ?_
      refine o_q (q_len rfl) ?_
      refine o_q (q_mv) ?_
      refine JL.nil ?_
      refine J.block ?_
      -- loop 0: kept [1, 20, 21], said [22]
      first | refine J.loopK (α := Nat) (fun i h' L' => i ≤ L.length ∧ okAll cols L = okAll cols (L.drop i) ∧ [(b1, row 24 [.int .i64 rows, .int .i64 cols, .slice p L.length c])] = L') [(1, .pointer _), (20, .slice _ _ _), (21, .int _ _)] ⟨rfl, rfl, rfl, trivial⟩ (fun i => [(22, .int .i64 (i : Int))]) (fun i => L.length - i) (0) ⟨by omega, rfl, rfl⟩ ⟨rfl, trivial⟩ ?_ | refine J.loopK (α := Nat) (fun i h' L' => i ≤ L.length ∧ okAll cols L = okAll cols (L.drop i) ∧ [(b1, row 24 [.int .i64 rows, .int .i64 cols, .slice p L.length c])] = L') [(1, _), (20, _), (21, _)] ⟨rfl, rfl, rfl, trivial⟩ (fun i => [(22, .int .i64 (i : Int))]) (fun i => L.length - i) (0) ⟨by omega, rfl, rfl⟩ ⟨rfl, trivial⟩ ?_
      rintro i σ h1 L1 s1 ⟨hi, hI, rfl⟩
      refine J.seq ?_
      refine J.region ?_
      refine o_q (q_lss rfl rfl) ?_
      refine JL.nil ?_
      refine J.seq ?_
      refine J.condD rfl (fun c1 => ?_) (fun c1 => ?_)
      ·
        obtain ⟨r, hr⟩ := lt_get (show i < L.length by omega)
        obtain ⟨kr, or1, qr, mr, nr, rfl, hcr, hrr⟩ := Sls.row hL hr
        have hrm := List.mem_of_getElem? hr
        have hrl := hNr r hrm
        refine J.skip ?_
        -- cut: kept [1, 20, 21, 22], said []
        first | refine J.cutK (α := Unit) (fun _ h' L' => okRow (-1) cols r = true ∧ [(b1, row 24 [.int .i64 rows, .int .i64 cols, .slice (some ⟨kr, or1, none⟩) L.length c])] = L') [(1, .pointer _), (20, .slice _ _ _), (21, .int _ _), (22, .int _ _)] ⟨rfl, rfl, rfl, rfl, trivial⟩ (fun _ => []) ?_ ?_ | refine J.cutK (α := Unit) (fun _ h' L' => okRow (-1) cols r = true ∧ [(b1, row 24 [.int .i64 rows, .int .i64 cols, .slice (some ⟨kr, or1, none⟩) L.length c])] = L') [(1, _), (20, _), (21, _), (22, _)] ⟨rfl, rfl, rfl, rfl, trivial⟩ (fun _ => []) ?_ ?_
        ·
          refine J.block ?_
          refine J.seq ?_
          refine J.region ?_
          refine o_q (q_ia rfl rfl (by omega)) ?_
          refine o_q (q_ldf rfl hcr) ?_
          first | refine o_q (q_asv (v := .slice _ _ _) rfl) ?_ | refine o_q (q_as) ?_
          refine JL.nil ?_
          refine J.seq ?_
          refine J.region ?_
          refine o_q (q_as) ?_
          refine JL.nil ?_
          refine J.seq ?_
          obtain ⟨pr, cr, er, hcr2⟩ := hrr.out
          cases er
          refine J.region ?_
          first | refine o_q (q_mvv (v := .slice _ _ _) rfl) ?_ | refine o_q (q_mv) ?_
          refine o_q (q_len rfl) ?_
          refine o_q (q_mv) ?_
          refine JL.nil ?_
          refine J.block ?_
          -- loop 1: kept [1, 20, 21, 22, 26, 27], said [5, 28]
          first | refine J.loopK (α := Nat) (fun j h' L' => j ≤ r.length ∧ okRow (-1) cols r = okRow (lc r j) cols (r.drop j) ∧ [(b1, row 24 [.int .i64 rows, .int .i64 cols, .slice (some ⟨kr, or1, none⟩) L.length c])] = L') [(1, .pointer _), (20, .slice _ _ _), (21, .int _ _), (22, .int _ _), (26, .slice _ _ _), (27, .int _ _)] ⟨rfl, rfl, rfl, rfl, rfl, rfl, trivial⟩ (fun j => [(5, .int .i64 (lc r j)), (28, .int .i64 (j : Int))]) (fun j => r.length - j) (0) ⟨by omega, rfl, rfl⟩ ⟨rfl, rfl, trivial⟩ ?_ | refine J.loopK (α := Nat) (fun j h' L' => j ≤ r.length ∧ okRow (-1) cols r = okRow (lc r j) cols (r.drop j) ∧ [(b1, row 24 [.int .i64 rows, .int .i64 cols, .slice (some ⟨kr, or1, none⟩) L.length c])] = L') [(1, _), (20, _), (21, _), (22, _), (26, _), (27, _)] ⟨rfl, rfl, rfl, rfl, rfl, rfl, trivial⟩ (fun j => [(5, .int .i64 (lc r j)), (28, .int .i64 (j : Int))]) (fun j => r.length - j) (0) ⟨by omega, rfl, rfl⟩ ⟨rfl, rfl, trivial⟩ ?_
          rintro j σ2 h2 L2 s2 ⟨hj, hJ, rfl⟩
          refine J.seq ?_
          refine J.region ?_
          refine o_q (q_lss rfl rfl) ?_
          refine JL.nil ?_
          refine J.seq ?_
          refine J.condD rfl (fun c2 => ?_) (fun c2 => ?_)
          ·
            obtain ⟨t, ht⟩ := lt_get (show j < r.length by omega)
            obtain ⟨kx, ox, qx, nx, rfl, hcx0, hcx1, hcx, hnx, hmx⟩ := Sls.term hrr ht
            refine J.skip ?_
            refine J.seq ?_
            refine J.block ?_
            refine J.seq ?_
            refine J.region ?_
            refine o_q (q_ia rfl rfl (by omega)) ?_
            refine o_q (q_ldfa rfl hcx) ?_
            refine o_al (fun b7 => ?_)
            refine o_stw (vs := [_, _, _]) rfl rfl rfl inferInstance rfl rfl ?_
            refine JL.nil ?_
            refine J.seq ?_
            refine J.seq ?_
            rcases five (canon t.2.1 t.2.2) (sgn t.2.1 t.2.2) t.1 cols (lc r j) with q3 | ⟨q4, q3⟩ | ⟨q4, q5, q3⟩ | ⟨q4, q5, q3, q6⟩ | ⟨q4, q5, q3, q6⟩
            ·
              have hok := okTerm_false (last := lc r j) (cols := cols) (t := t) (fun ⟨a, b, c, d⟩ => by omega)
              refine J.region ?_
              refine o_q (q_fa rfl) ?_
              refine o_q (q_ld rfl inferInstance rfl) ?_
              first | refine o_q (q_mvv (v := .int _ _) rfl) ?_ | refine o_q (q_mv) ?_
              refine o_q (q_leq rfl rfl) ?_
              first | refine o_q (q_mvv (v := .bool _) rfl) ?_ | refine o_q (q_mv) ?_
              refine JL.guardF rfl rfl (decide_eq_true q3) rfl ?_
              refine JL.guardF rfl rfl (decide_eq_true q3) rfl ?_
              refine JL.guardF rfl rfl (decide_eq_true q3) rfl ?_
              refine JL.guardF rfl rfl (decide_eq_true q3) rfl ?_
              refine JL.guardF rfl rfl (decide_eq_true q3) rfl ?_
              refine o_q (q_pickT rfl (decide_eq_true q3)) ?_
              first | refine o_q (q_mvv (v := .bool _) rfl) ?_ | refine o_q (q_mv) ?_
              refine JL.guardF rfl rfl rfl rfl ?_
              refine JL.guardF rfl rfl rfl rfl ?_
              refine JL.guardF rfl rfl rfl rfl ?_
              refine JL.guardF rfl rfl rfl rfl ?_
              refine o_q (q_pickT rfl rfl) ?_
              first | refine o_q (q_mvv (v := .bool _) rfl) ?_ | refine o_q (q_mv) ?_
              refine JL.guardF rfl rfl rfl rfl ?_
              refine JL.guardF rfl rfl rfl rfl ?_
              refine JL.guardF rfl rfl rfl rfl ?_
              refine JL.guardF rfl rfl rfl rfl ?_
              refine o_q (q_pickT rfl rfl) ?_
              refine JL.nil ?_
              refine J.condT rfl rfl ?_
              refine J.seq ?_
              refine J.region ?_
              refine o_q (q_as) ?_
              refine JL.nil ?_
              refine J.ret ?_
              exact ret_ok (fn := Try.f10) rfl (.tmp rfl .nil) (by rw [hI, okAll_step hr, hJ, okRow_step ht, hok] <;> rfl)
            ·
              have hok := okTerm_false (last := lc r j) (cols := cols) (t := t) (fun ⟨a, b, c, d⟩ => by omega)
              refine J.region ?_
              refine o_q (q_fa rfl) ?_
              refine o_q (q_ld rfl inferInstance rfl) ?_
              first | refine o_q (q_mvv (v := .int _ _) rfl) ?_ | refine o_q (q_mv) ?_
              refine o_q (q_leq rfl rfl) ?_
              first | refine o_q (q_mvv (v := .bool _) rfl) ?_ | refine o_q (q_mv) ?_
              refine JL.guardT rfl rfl (decide_eq_false (by omega)) ?_
              refine o_q (q_fa rfl) ?_
              refine JL.guardT rfl rfl (decide_eq_false (by omega)) ?_
              refine o_q (q_ld rfl inferInstance rfl) ?_
              refine JL.guardT rfl rfl (decide_eq_false (by omega)) ?_
              refine o_q (q_fa rfl) ?_
              refine JL.guardT rfl rfl (decide_eq_false (by omega)) ?_
              refine o_q (q_ld rfl inferInstance rfl) ?_
              refine JL.guardT rfl rfl (decide_eq_false (by omega)) ?_
              refine o_q (q_geq rfl rfl) ?_
              first | refine o_q (q_pickFv (v := .bool _) rfl (decide_eq_false (by omega)) rfl) ?_ | refine o_q (q_pickF rfl (decide_eq_false (by omega))) ?_
              first | refine o_q (q_mvv (v := .bool _) rfl) ?_ | refine o_q (q_mv) ?_
              refine JL.guardF rfl rfl (decide_eq_true q3) rfl ?_
              refine JL.guardF rfl rfl (decide_eq_true q3) rfl ?_
              refine JL.guardF rfl rfl (decide_eq_true q3) rfl ?_
              refine JL.guardF rfl rfl (decide_eq_true q3) rfl ?_
              refine o_q (q_pickT rfl (decide_eq_true q3)) ?_
              first | refine o_q (q_mvv (v := .bool _) rfl) ?_ | refine o_q (q_mv) ?_
              refine JL.guardF rfl rfl rfl rfl ?_
              refine JL.guardF rfl rfl rfl rfl ?_
              refine JL.guardF rfl rfl rfl rfl ?_
              refine JL.guardF rfl rfl rfl rfl ?_
              refine o_q (q_pickT rfl rfl) ?_
              refine JL.nil ?_
              refine J.condT rfl rfl ?_
              refine J.seq ?_
              refine J.region ?_
              refine o_q (q_as) ?_
              refine JL.nil ?_
              refine J.ret ?_
              exact ret_ok (fn := Try.f10) rfl (.tmp rfl .nil) (by rw [hI, okAll_step hr, hJ, okRow_step ht, hok] <;> rfl)
            ·
              have hok := okTerm_false (last := lc r j) (cols := cols) (t := t) (fun ⟨a, b, c, d⟩ => by rw [q3] at c; cases c)
              refine J.region ?_
              refine o_q (q_fa rfl) ?_
              refine o_q (q_ld rfl inferInstance rfl) ?_
              first | refine o_q (q_mvv (v := .int _ _) rfl) ?_ | refine o_q (q_mv) ?_
              refine o_q (q_leq rfl rfl) ?_
              first | refine o_q (q_mvv (v := .bool _) rfl) ?_ | refine o_q (q_mv) ?_
              refine JL.guardT rfl rfl (decide_eq_false (by omega)) ?_
              refine o_q (q_fa rfl) ?_
              refine JL.guardT rfl rfl (decide_eq_false (by omega)) ?_
              refine o_q (q_ld rfl inferInstance rfl) ?_
              refine JL.guardT rfl rfl (decide_eq_false (by omega)) ?_
              refine o_q (q_fa rfl) ?_
              refine JL.guardT rfl rfl (decide_eq_false (by omega)) ?_
              refine o_q (q_ld rfl inferInstance rfl) ?_
              refine JL.guardT rfl rfl (decide_eq_false (by omega)) ?_
              refine o_q (q_geq rfl rfl) ?_
              first | refine o_q (q_pickFv (v := .bool _) rfl (decide_eq_false (by omega)) rfl) ?_ | refine o_q (q_pickF rfl (decide_eq_false (by omega))) ?_
              first | refine o_q (q_mvv (v := .bool _) rfl) ?_ | refine o_q (q_mv) ?_
              refine JL.guardT rfl rfl (decide_eq_false (by omega)) ?_
              refine o_q (q_fa rfl) ?_
              refine JL.guardT rfl rfl (decide_eq_false (by omega)) ?_
              refine o_q (q_lda (vs := [_, _]) rfl inferInstance ⟨rfl, rfl, trivial⟩) ?_
              refine JL.guardT rfl rfl (decide_eq_false (by omega)) ?_
              refine o_call (valid_fn ⟨_, rfl, hmx.mono⟩ (hT r hrm t (List.mem_of_getElem? ht))) (fun v1 hv1 sv1 ev1 => ?_)
              subst ev1
              refine JL.guardT rfl rfl (decide_eq_false (by omega)) ?_
              refine o_q (q_not rfl) ?_
              first | refine o_q (q_pickFv (v := .bool _) rfl (decide_eq_false (by omega)) rfl) ?_ | refine o_q (q_pickF rfl (decide_eq_false (by omega))) ?_
              first | refine o_q (q_mvv (v := .bool _) rfl) ?_ | refine o_q (q_mv) ?_
              refine JL.guardF rfl rfl (by rw [q3] <;> rfl) rfl ?_
              refine JL.guardF rfl rfl (by rw [q3] <;> rfl) rfl ?_
              refine JL.guardF rfl rfl (by rw [q3] <;> rfl) rfl ?_
              refine JL.guardF rfl rfl (by rw [q3] <;> rfl) rfl ?_
              refine o_q (q_pickT rfl (by rw [q3] <;> rfl)) ?_
              refine JL.nil ?_
              refine J.condT rfl rfl ?_
              refine J.seq ?_
              refine J.region ?_
              refine o_q (q_as) ?_
              refine JL.nil ?_
              refine J.ret ?_
              exact ret_ok (fn := Try.f10) rfl (.tmp rfl .nil) (by rw [hI, okAll_step hr, hJ, okRow_step ht, hok] <;> rfl)
            ·
              have hok := okTerm_false (last := lc r j) (cols := cols) (t := t) (fun ⟨a, b, c, d⟩ => d q6)
              refine J.region ?_
              refine o_q (q_fa rfl) ?_
              refine o_q (q_ld rfl inferInstance rfl) ?_
              first | refine o_q (q_mvv (v := .int _ _) rfl) ?_ | refine o_q (q_mv) ?_
              refine o_q (q_leq rfl rfl) ?_
              first | refine o_q (q_mvv (v := .bool _) rfl) ?_ | refine o_q (q_mv) ?_
              refine JL.guardT rfl rfl (decide_eq_false (by omega)) ?_
              refine o_q (q_fa rfl) ?_
              refine JL.guardT rfl rfl (decide_eq_false (by omega)) ?_
              refine o_q (q_ld rfl inferInstance rfl) ?_
              refine JL.guardT rfl rfl (decide_eq_false (by omega)) ?_
              refine o_q (q_fa rfl) ?_
              refine JL.guardT rfl rfl (decide_eq_false (by omega)) ?_
              refine o_q (q_ld rfl inferInstance rfl) ?_
              refine JL.guardT rfl rfl (decide_eq_false (by omega)) ?_
              refine o_q (q_geq rfl rfl) ?_
              first | refine o_q (q_pickFv (v := .bool _) rfl (decide_eq_false (by omega)) rfl) ?_ | refine o_q (q_pickF rfl (decide_eq_false (by omega))) ?_
              first | refine o_q (q_mvv (v := .bool _) rfl) ?_ | refine o_q (q_mv) ?_
              refine JL.guardT rfl rfl (decide_eq_false (by omega)) ?_
              refine o_q (q_fa rfl) ?_
              refine JL.guardT rfl rfl (decide_eq_false (by omega)) ?_
              refine o_q (q_lda (vs := [_, _]) rfl inferInstance ⟨rfl, rfl, trivial⟩) ?_
              refine JL.guardT rfl rfl (decide_eq_false (by omega)) ?_
              refine o_call (valid_fn ⟨_, rfl, hmx.mono⟩ (hT r hrm t (List.mem_of_getElem? ht))) (fun v1 hv1 sv1 ev1 => ?_)
              subst ev1
              refine JL.guardT rfl rfl (decide_eq_false (by omega)) ?_
              refine o_q (q_not rfl) ?_
              first | refine o_q (q_pickFv (v := .bool _) rfl (decide_eq_false (by omega)) rfl) ?_ | refine o_q (q_pickF rfl (decide_eq_false (by omega))) ?_
              first | refine o_q (q_mvv (v := .bool _) rfl) ?_ | refine o_q (q_mv) ?_
              refine JL.guardT rfl rfl (by rw [q3] <;> rfl) ?_
              refine o_q (q_fa rfl) ?_
              refine JL.guardT rfl rfl (by rw [q3] <;> rfl) ?_
              refine o_q (q_lda (vs := [_, _]) rfl inferInstance ⟨rfl, rfl, trivial⟩) ?_
              refine JL.guardT rfl rfl (by rw [q3] <;> rfl) ?_
              refine o_call (sign_fn ⟨_, rfl, hmx.mono⟩ (hT r hrm t (List.mem_of_getElem? ht))) (fun v2 hv2 sv2 ev2 => ?_)
              subst ev2
              refine JL.guardT rfl rfl (by rw [q3] <;> rfl) ?_
              refine o_q (q_eql rfl rfl) ?_
              first | refine o_q (q_pickFv (v := .bool _) rfl (by rw [q3] <;> rfl) rfl) ?_ | refine o_q (q_pickF rfl (by rw [q3] <;> rfl)) ?_
              refine JL.nil ?_
              refine J.condT rfl (decide_eq_true q6) ?_
              refine J.seq ?_
              refine J.region ?_
              refine o_q (q_as) ?_
              refine JL.nil ?_
              refine J.ret ?_
              exact ret_ok (fn := Try.f10) rfl (.tmp rfl .nil) (by rw [hI, okAll_step hr, hJ, okRow_step ht, hok] <;> rfl)
            ·
              have hok := okTerm_true (last := lc r j) (cols := cols) (t := t) ⟨q4, q5, q3, q6⟩
              refine J.region ?_
              refine o_q (q_fa rfl) ?_
              refine o_q (q_ld rfl inferInstance rfl) ?_
              first | refine o_q (q_mvv (v := .int _ _) rfl) ?_ | refine o_q (q_mv) ?_
              refine o_q (q_leq rfl rfl) ?_
              first | refine o_q (q_mvv (v := .bool _) rfl) ?_ | refine o_q (q_mv) ?_
              refine JL.guardT rfl rfl (decide_eq_false (by omega)) ?_
              refine o_q (q_fa rfl) ?_
              refine JL.guardT rfl rfl (decide_eq_false (by omega)) ?_
              refine o_q (q_ld rfl inferInstance rfl) ?_
              refine JL.guardT rfl rfl (decide_eq_false (by omega)) ?_
              refine o_q (q_fa rfl) ?_
              refine JL.guardT rfl rfl (decide_eq_false (by omega)) ?_
              refine o_q (q_ld rfl inferInstance rfl) ?_
              refine JL.guardT rfl rfl (decide_eq_false (by omega)) ?_
              refine o_q (q_geq rfl rfl) ?_
              first | refine o_q (q_pickFv (v := .bool _) rfl (decide_eq_false (by omega)) rfl) ?_ | refine o_q (q_pickF rfl (decide_eq_false (by omega))) ?_
              first | refine o_q (q_mvv (v := .bool _) rfl) ?_ | refine o_q (q_mv) ?_
              refine JL.guardT rfl rfl (decide_eq_false (by omega)) ?_
              refine o_q (q_fa rfl) ?_
              refine JL.guardT rfl rfl (decide_eq_false (by omega)) ?_
              refine o_q (q_lda (vs := [_, _]) rfl inferInstance ⟨rfl, rfl, trivial⟩) ?_
              refine JL.guardT rfl rfl (decide_eq_false (by omega)) ?_
              refine o_call (valid_fn ⟨_, rfl, hmx.mono⟩ (hT r hrm t (List.mem_of_getElem? ht))) (fun v1 hv1 sv1 ev1 => ?_)
              subst ev1
              refine JL.guardT rfl rfl (decide_eq_false (by omega)) ?_
              refine o_q (q_not rfl) ?_
              first | refine o_q (q_pickFv (v := .bool _) rfl (decide_eq_false (by omega)) rfl) ?_ | refine o_q (q_pickF rfl (decide_eq_false (by omega))) ?_
              first | refine o_q (q_mvv (v := .bool _) rfl) ?_ | refine o_q (q_mv) ?_
              refine JL.guardT rfl rfl (by rw [q3] <;> rfl) ?_
              refine o_q (q_fa rfl) ?_
              refine JL.guardT rfl rfl (by rw [q3] <;> rfl) ?_
              refine o_q (q_lda (vs := [_, _]) rfl inferInstance ⟨rfl, rfl, trivial⟩) ?_
              refine JL.guardT rfl rfl (by rw [q3] <;> rfl) ?_
              refine o_call (sign_fn ⟨_, rfl, hmx.mono⟩ (hT r hrm t (List.mem_of_getElem? ht))) (fun v2 hv2 sv2 ev2 => ?_)
              subst ev2
              refine JL.guardT rfl rfl (by rw [q3] <;> rfl) ?_
              refine o_q (q_eql rfl rfl) ?_
              first | refine o_q (q_pickFv (v := .bool _) rfl (by rw [q3] <;> rfl) rfl) ?_ | refine o_q (q_pickF rfl (by rw [q3] <;> rfl)) ?_
              refine JL.nil ?_
              refine J.condF rfl (decide_eq_false q6) ?_
              refine J.skip ?_
              refine J.region ?_
              refine o_q (q_fa rfl) ?_
              refine o_q (q_ld rfl inferInstance rfl) ?_
              first | refine o_q (q_asv (v := .int _ _) rfl) ?_ | refine o_q (q_as) ?_
              refine JL.nil ?_
              refine J.drop ?_
              refine J.region ?_
              refine o_q (q_add (c := ((j + 1 : Nat) : Int)) rfl rfl (by rw [wi64 (by omega)]; omega)) ?_
              first | refine o_q (q_mvv (v := .int _ _) rfl) ?_ | refine o_q (q_mv) ?_
              refine JL.nil ?_
              exact ⟨j + 1, rfl, ⟨rfl, rfl, rfl, rfl, rfl, rfl, trivial⟩, ⟨(by rw [lc_succ ht] <;> rfl), rfl, trivial⟩, ⟨by omega, (by rw [hJ, okRow_step ht, hok, lc_succ ht, Bool.true_and]), rfl⟩, by omega, inferInstance⟩
          ·
            refine J.exit ?_
            exact ⟨(), rfl, ⟨rfl, rfl, rfl, rfl, trivial⟩, trivial, ⟨(by rw [hJ, List.drop_of_length_le (by omega)] <;> rfl), rfl⟩, inferInstance⟩
        ·
          rintro _ σ8 h8 L8 s8 ⟨hok, rfl⟩
          refine J.region ?_
          refine o_q (q_add (c := ((i + 1 : Nat) : Int)) rfl rfl (by rw [wi64 (by omega)]; omega)) ?_
          first | refine o_q (q_mvv (v := .int _ _) rfl) ?_ | refine o_q (q_mv) ?_
          refine JL.nil ?_
          exact ⟨i + 1, rfl, ⟨rfl, rfl, rfl, trivial⟩, ⟨rfl, trivial⟩, ⟨by omega, (by rw [hI, okAll_step hr, hok, Bool.true_and]), rfl⟩, by omega, inferInstance⟩
      ·
        refine J.exit ?_
        exact ⟨(), rfl, trivial, trivial, ⟨(by rw [hI, List.drop_of_length_le (by omega)] <;> rfl), rfl⟩, inferInstance⟩
    ·
      rintro _ σ9 h9 L9 s9 ⟨hok, rfl⟩
      refine J.seq ?_
      refine J.region ?_
      refine o_q (q_as) ?_
      refine JL.nil ?_
      refine J.ret ?_
      exact ret_ok (fn := Try.f10) rfl (.tmp rfl .nil) (by rw [hok] <;> rfl)
end Go.Z
end
