/- The reference's From, Insert and Remove, walked. -/
import Derived.Test.YtjdfhlkpfjhjoaaSp11
import Derived.Test.YtjdfhlkpfjhjoaaSp10
set_option linter.unusedSimpArgs false
set_option linter.unusedVariables false
namespace Go.Z
open Go Go.RowKit Go.Proofs
set_option maxHeartbeats 4000000 in
theorem fromr_fn {h : Heap} {v : Value} {rows cols : Int} {A : List (List Int)} (ha : MatAt h v rows cols A) (hrows : rows = A.length) (hA : A.length ≤ 1000000) (hAr : ∀ r ∈ A, r.length ≤ 1000000) (hF : ∀ r ∈ A, ∀ z ∈ r, Fit z) :
    Fn Try.prog 21 #[v] h fun r h' => SparseAt h' r rows cols (crs (A.map sprow)) := by
  obtain ⟨pA, cA, rfl, hM⟩ := ha
  refine Fn.intro (args := [_]) Try.func21 rfl rfl (Nat.le_of_ble_eq_true rfl) fun w => ?_
  refine J.seq ?_
  refine J.region ?_
  first | refine o_bx (v := .agg _) rfl rfl (fun b1 => ?_) | refine o_bx rfl rfl (fun b1 => ?_)
  refine o_al (fun b2 => ?_)
  refine JL.nil ?_
  refine J.seq ?_
  refine J.region ?_
  refine o_q (q_fa rfl) ?_
  refine o_q (q_ld rfl inferInstance rfl) ?_
  refine o_q (q_fa rfl) ?_
  refine o_q (q_ld rfl inferInstance rfl) ?_
  first | refine o_q (q_bd [.int _ _, .int _ _, .slice _ _ _] rfl) ?_ | refine o_q (q_bd [_, _, _] rfl) ?_
  refine o_al (fun b3 => ?_)
  refine o_stw (vs := [_, _, _]) rfl rfl rfl inferInstance rfl rfl ?_
  refine JL.nil ?_
  -- cut: kept [2, 3], said []
  first | refine J.cutK (α := List Value × Option Addr × Nat × Own) (fun ⟨ys, pL, cL, Lb⟩ h' L' => OwnS 26 1 (.slice pL A.length cL) A.length ys Lb ∧ Cells (One RowAt) 1 h' ys (crs (A.map sprow)) ∧ List.Sublist (Lb ++ [(b3, row 24 [.int .i64 rows, .int .i64 cols, .slice pL A.length cL]), (b2, row 24 [.int .i64 0, .int .i64 0, .slice none 0 0])]) L') [(2, .pointer _), (3, .pointer _)] ⟨rfl, rfl, trivial⟩ (fun _ => []) ?_ ?_ | refine J.cutK (α := List Value × Option Addr × Nat × Own) (fun ⟨ys, pL, cL, Lb⟩ h' L' => OwnS 26 1 (.slice pL A.length cL) A.length ys Lb ∧ Cells (One RowAt) 1 h' ys (crs (A.map sprow)) ∧ List.Sublist (Lb ++ [(b3, row 24 [.int .i64 rows, .int .i64 cols, .slice pL A.length cL]), (b2, row 24 [.int .i64 0, .int .i64 0, .slice none 0 0])]) L') [(2, _), (3, _)] ⟨rfl, rfl, trivial⟩ (fun _ => []) ?_ ?_
  ·
    refine J.seq ?_
    refine J.region ?_
    refine o_q (q_as) ?_
    refine JL.nil ?_
    refine J.block ?_
    -- loop 0: kept [1, 2, 3], said [4]
    first | refine J.loopK (α := Nat × List Value × Option Addr × Nat × Own) (fun ⟨i, ys, pL, cL, Lb⟩ h' L' => i ≤ A.length ∧ OwnS 26 1 (.slice pL i cL) i ys Lb ∧ Cells (One RowAt) 1 h' ys (crs ((A.take i).map sprow)) ∧ List.Sublist (Lb ++ [(b3, row 24 [.int .i64 rows, .int .i64 cols, .slice pL i cL]), (b2, row 24 [.int .i64 0, .int .i64 0, .slice none 0 0]), (b1, row 50 [.int .i64 rows, .int .i64 cols, .slice pA A.length cA])]) L') [(1, .pointer _), (2, .pointer _), (3, .pointer _)] ⟨rfl, rfl, rfl, trivial⟩ (fun ⟨i, ys, pL, cL, Lb⟩ => [(4, .int .i64 (i : Int))]) (fun x => A.length - x.1) ((0, [], none, 0, [])) ⟨by omega, OwnS.nil _ _, Cells.nil, List.Sublist.refl _⟩ ⟨rfl, trivial⟩ ?_ | refine J.loopK (α := Nat × List Value × Option Addr × Nat × Own) (fun ⟨i, ys, pL, cL, Lb⟩ h' L' => i ≤ A.length ∧ OwnS 26 1 (.slice pL i cL) i ys Lb ∧ Cells (One RowAt) 1 h' ys (crs ((A.take i).map sprow)) ∧ List.Sublist (Lb ++ [(b3, row 24 [.int .i64 rows, .int .i64 cols, .slice pL i cL]), (b2, row 24 [.int .i64 0, .int .i64 0, .slice none 0 0]), (b1, row 50 [.int .i64 rows, .int .i64 cols, .slice pA A.length cA])]) L') [(1, _), (2, _), (3, _)] ⟨rfl, rfl, rfl, trivial⟩ (fun ⟨i, ys, pL, cL, Lb⟩ => [(4, .int .i64 (i : Int))]) (fun x => A.length - x.1) ((0, [], none, 0, [])) ⟨by omega, OwnS.nil _ _, Cells.nil, List.Sublist.refl _⟩ ⟨rfl, trivial⟩ ?_
    rintro ⟨i, ys, pL, cL, Lb⟩ σ h1 L1 s1 ⟨hi, ho, hcs, hsub⟩
    refine J.sub hsub ?_
    refine J.seq ?_
    refine J.seq ?_
    refine J.region ?_
    first | refine o_q (q_mvv (v := .int _ _) rfl) ?_ | refine o_q (q_mv) ?_
    refine o_q (q_fa rfl) ?_
    refine o_q (q_ld rfl inferInstance rfl) ?_
    refine o_q (q_lss rfl rfl) ?_
    refine JL.nil ?_
    refine J.condD rfl (fun c0 => ?_) (fun c0 => ?_)
    ·
      obtain ⟨w1, hw⟩ := lt_get (show i < A.length by omega)
      obtain ⟨kr, or, qr, mr, nr, rfl, hcr, hrr⟩ := Sls.row hM hw
      have mw := List.mem_of_getElem? hw
      have wl := hAr w1 mw
      refine J.skip ?_
      refine J.seq ?_
      refine J.block ?_
      refine J.draw ([(b3, row 24 [.int .i64 rows, .int .i64 cols, .slice pL i cL]), (b1, row 50 [.int .i64 rows, .int .i64 cols, .slice (some ⟨kr, or, none⟩) A.length cA])]) [11] ?_
      refine JD.calc 0 (by kernel_rfl) rfl trivial ss_sub (q_fa rfl) ?_
      refine JD.load 1 (by kernel_rfl) rfl trivial (q_ld rfl inferInstance rfl) ?_
      refine JD.calc 2 (by kernel_rfl) rfl trivial ss_sub (q_fa rfl) ?_
      refine JD.load 3 (by kernel_rfl) rfl trivial (q_ld rfl inferInstance rfl) ?_
      first | refine JD.calc 4 (by kernel_rfl) rfl trivial ss_sub (q_mvv (v := .int _ _) rfl) ?_ | refine JD.calc 4 (by kernel_rfl) rfl trivial ss_sub (q_mv) ?_
      refine JD.calc 5 (by kernel_rfl) rfl trivial ss_sub (q_ia rfl rfl (by omega)) ?_
      refine JD.load 6 (by kernel_rfl) rfl trivial (q_ldf rfl hcr) ?_
      refine JD.one 7 (by kernel_rfl) ?_
      refine JX.eff rfl rfl trivial ?_
      refine o_call (row_fn hrr.mono wl (hF w1 mw)) (fun v23 h23 s23 r23 => ?_)
      obtain ⟨p23, c23, rfl, hc23⟩ := r23.out
      refine JL.nil ⟨rfl, inferInstance, inferInstance, ?_⟩
      refine JD.one 8 (by kernel_rfl) ?_
      refine JX.eff rfl rfl trivial ?_
      first | refine o_bs [.slice _ _ _] (by decide) rfl (fun b24 => ?_) | refine o_bs [_] (by decide) rfl (fun b24 => ?_)
      refine JL.nil ⟨rfl, inferInstance, inferInstance, ?_⟩
      refine JD.one 9 (by kernel_rfl) ?_
      refine JX.eff rfl rfl trivial ?_
      refine o_app (m := 1) rfl rfl ho inferInstance (src_own inferInstance (LookN.all _) rfl (by simp [plain])) (by omega) (fun v42 L42 ho42 => ?_)
      obtain ⟨p42, c42, rfl⟩ := ho42.out
      refine JL.nil ⟨rfl, inferInstance, inferInstance, ?_⟩
      refine JD.calc 10 (by kernel_rfl) rfl trivial ss_sub (q_fa rfl) ?_
      refine JD.one 11 (by kernel_rfl) ?_
      refine JX.mut rfl rfl trivial ?_
      first | refine o_st1 (v := .slice _ _ _) rfl rfl rfl inferInstance (by first | decide | simp) ?_ | refine o_st1 rfl rfl rfl inferInstance (by first | decide | simp) ?_
      refine JL.nil ⟨rfl, ?_⟩
      refine JD.done (by kernel_rfl) ?_ _
      refine J.region ?_
      first | refine o_q (q_mvv (v := .int _ _) rfl) ?_ | refine o_q (q_mv) ?_
      refine o_q (q_add (c := ((i + 1 : Nat) : Int)) rfl rfl (by rw [wi64 (by omega)]; omega)) ?_
      first | refine o_q (q_asv (v := .int _ _) rfl) ?_ | refine o_q (q_as) ?_
      refine JL.nil ?_
      have hcs2 : Cells (One RowAt) 1 h23 (ys ++ [.slice p23 (cr (sprow w1)).length c23]) (crs ((A.take (i + 1)).map sprow)) := by
        rw [List.take_add_one, hw]
        simp only [Option.toList, List.map_append, crs, List.map_cons, List.map_nil]
        exact hcs.mono.snoc rfl ⟨_, _, _, rfl, r23⟩
      exact ⟨(i + 1, _, p42, c42, L42), rfl, ⟨rfl, rfl, rfl, trivial⟩, ⟨rfl, trivial⟩, ⟨by omega, ho42, hcs2.mono, (by repeat' first | exact List.Sublist.refl _ | apply List.Sublist.cons_cons | apply List.Sublist.append (List.Sublist.refl _) | apply List.Sublist.cons)⟩, by show A.length - (i + 1) < A.length - i; omega, inferInstance⟩
    ·
      refine J.exit ?_
      obtain rfl : i = A.length := by omega
      rw [List.take_length] at hcs
      exact ⟨(ys, pL, cL, Lb), rfl, ⟨rfl, rfl, trivial⟩, trivial, ⟨ho, hcs, by repeat' first | exact List.Sublist.refl _ | apply List.Sublist.cons_cons | apply List.Sublist.append (List.Sublist.refl _) | apply List.Sublist.cons | exact List.nil_sublist _⟩, inferInstance⟩
  ·
    rintro ⟨ys, pL, cL, Lb⟩ σ9 h9 L9 s9 ⟨ho, hcs, hsub⟩
    refine J.sub hsub ?_
    refine J.seq ?_
    refine J.fzS ho (fun h11 s11 hs11 => ?_)
    refine J.region ?_
    refine o_q (q_lda (vs := [_, _, _]) rfl inferInstance ⟨rfl, rfl, rfl, trivial⟩) ?_
    refine o_stw (vs := [_, _, _]) rfl rfl rfl inferInstance rfl rfl ?_
    refine JL.nil ?_
    refine J.ret ?_
    refine ret_ok (fn := Try.f21) rfl (.agg rfl inferInstance inferInstance .nil) ?_
    have hel : (crs (A.map sprow)).length = A.length := by simp
    refine ⟨pL, cL, by rw [hel]; rfl, ?_⟩
    rw [hel]
    exact Sls.of hs11 hcs.mono (by simp)
theorem insertr_err1 {h : Heap} {rows cols i : Int} {p pr : Option Addr} {n c nr kr : Nat} (hi : i < 0 ∨ (0 ≤ i ∧ rows < i)) :
    Fn Try.prog 24 #[.agg ⟨[.int .i64 rows, .int .i64 cols, .slice p n c]⟩, .int .i64 i, .slice pr nr kr] h fun r _ => r = .tuple ⟨[noSparse, .int .i64 1]⟩ := by
  refine Fn.intro (args := [_, _, _]) Try.func24 rfl rfl (Nat.le_of_ble_eq_true rfl) fun w => ?_
  refine J.seq ?_
  refine J.region ?_
  first | refine o_bx (v := .agg _) rfl rfl (fun b3 => ?_) | refine o_bx rfl rfl (fun b3 => ?_)
  refine o_al (fun b6 => ?_)
  refine o_q (q_as) ?_
  refine JL.nil ?_
  refine J.seq ?_
  refine J.seq ?_
  rcases hi with q1 | ⟨q1, q2⟩
  ·
    refine J.region ?_
    first | refine o_q (q_mvv (v := .int _ _) rfl) ?_ | refine o_q (q_mv) ?_
    refine o_q (q_lss rfl rfl) ?_
    first | refine o_q (q_mvv (v := .bool _) rfl) ?_ | refine o_q (q_mv) ?_
    refine JL.guardF rfl rfl (decide_eq_true q1) rfl ?_
    refine JL.guardF rfl rfl (decide_eq_true q1) rfl ?_
    refine JL.guardF rfl rfl (decide_eq_true q1) rfl ?_
    refine JL.guardF rfl rfl (decide_eq_true q1) rfl ?_
    refine o_q (q_pickT rfl (decide_eq_true q1)) ?_
    refine JL.nil ?_
    refine J.condT rfl rfl ?_
    refine J.seq ?_
    refine J.region ?_
    first | refine o_q (q_bd [.int _ _, .int _ _, .slice _ _ _] rfl) ?_ | refine o_q (q_bd [_, _, _] rfl) ?_
    refine o_stw (vs := [_, _, _]) rfl rfl rfl inferInstance rfl rfl ?_
    refine o_q (q_as) ?_
    refine JL.nil ?_
    refine J.ret ?_
    exact ret_ok (fn := Try.f24) rfl (.agg rfl inferInstance inferInstance (.tmp rfl .nil)) rfl
  ·
    refine J.region ?_
    first | refine o_q (q_mvv (v := .int _ _) rfl) ?_ | refine o_q (q_mv) ?_
    refine o_q (q_lss rfl rfl) ?_
    first | refine o_q (q_mvv (v := .bool _) rfl) ?_ | refine o_q (q_mv) ?_
    refine JL.guardT rfl rfl (decide_eq_false (by omega)) ?_
    first | refine o_q (q_mvv (v := .int _ _) rfl) ?_ | refine o_q (q_mv) ?_
    refine JL.guardT rfl rfl (decide_eq_false (by omega)) ?_
    refine o_q (q_fa rfl) ?_
    refine JL.guardT rfl rfl (decide_eq_false (by omega)) ?_
    refine o_q (q_ld rfl inferInstance rfl) ?_
    refine JL.guardT rfl rfl (decide_eq_false (by omega)) ?_
    refine o_q (q_gtr rfl rfl) ?_
    first | refine o_q (q_pickFv (v := .bool _) rfl (decide_eq_false (by omega)) rfl) ?_ | refine o_q (q_pickF rfl (decide_eq_false (by omega))) ?_
    refine JL.nil ?_
    refine J.condT rfl (decide_eq_true q2) ?_
    refine J.seq ?_
    refine J.region ?_
    first | refine o_q (q_bd [.int _ _, .int _ _, .slice _ _ _] rfl) ?_ | refine o_q (q_bd [_, _, _] rfl) ?_
    refine o_stw (vs := [_, _, _]) rfl rfl rfl inferInstance rfl rfl ?_
    refine o_q (q_as) ?_
    refine JL.nil ?_
    refine J.ret ?_
    exact ret_ok (fn := Try.f24) rfl (.agg rfl inferInstance inferInstance (.tmp rfl .nil)) rfl
theorem insertr_err2 {h : Heap} {rows cols i : Int} {p : Option Addr} {n c : Nat} {vr : Value} {l : List RT} {t : RT} (hr : RowAt h vr l) (hi : 0 ≤ i ∧ i ≤ rows) (hl : 0 < l.length) (hl2 : l.length ≤ 1000000) (ht : l[l.length - 1]? = some t) (hc : cols ≤ t.1) :
    Fn Try.prog 24 #[.agg ⟨[.int .i64 rows, .int .i64 cols, .slice p n c]⟩, .int .i64 i, vr] h fun r _ => r = .tuple ⟨[noSparse, .int .i64 50]⟩ := by
  obtain ⟨pr, kr, rfl, hkr⟩ := hr.out
  refine Fn.intro (args := [_, _, _]) Try.func24 rfl rfl (Nat.le_of_ble_eq_true rfl) fun w => ?_
  refine J.seq ?_
  refine J.region ?_
  first | refine o_bx (v := .agg _) rfl rfl (fun b3 => ?_) | refine o_bx rfl rfl (fun b3 => ?_)
  refine o_al (fun b6 => ?_)
  refine o_q (q_as) ?_
  refine JL.nil ?_
  refine J.seq ?_
  refine J.seq ?_
  refine J.region ?_
  first | refine o_q (q_mvv (v := .int _ _) rfl) ?_ | refine o_q (q_mv) ?_
  refine o_q (q_lss rfl rfl) ?_
  first | refine o_q (q_mvv (v := .bool _) rfl) ?_ | refine o_q (q_mv) ?_
  refine JL.guardT rfl rfl (decide_eq_false (by omega)) ?_
  first | refine o_q (q_mvv (v := .int _ _) rfl) ?_ | refine o_q (q_mv) ?_
  refine JL.guardT rfl rfl (decide_eq_false (by omega)) ?_
  refine o_q (q_fa rfl) ?_
  refine JL.guardT rfl rfl (decide_eq_false (by omega)) ?_
  refine o_q (q_ld rfl inferInstance rfl) ?_
  refine JL.guardT rfl rfl (decide_eq_false (by omega)) ?_
  refine o_q (q_gtr rfl rfl) ?_
  first | refine o_q (q_pickFv (v := .bool _) rfl (decide_eq_false (by omega)) rfl) ?_ | refine o_q (q_pickF rfl (decide_eq_false (by omega))) ?_
  refine JL.nil ?_
  refine J.condF rfl (decide_eq_false (by omega)) ?_
  refine J.skip ?_
  refine J.seq ?_
  refine J.seq ?_
  obtain ⟨kx, ox, qx, nx, rfl, hcx0, hcx1, hcx, hnx, hmx⟩ := Sls.term hr ht
  refine J.drawA [] ?_
  first | refine JD.calc 0 (by kernel_rfl) rfl trivial ss_sub (q_mvv (v := .slice _ _ _) rfl) ?_ | refine JD.calc 0 (by kernel_rfl) rfl trivial ss_sub (q_mv) ?_
  refine JD.calc 1 (by kernel_rfl) rfl trivial ss_sub (q_len rfl) ?_
  refine JD.calc 2 (by kernel_rfl) rfl trivial ss_sub (q_gtr rfl rfl) ?_
  first | refine JD.calc 3 (by kernel_rfl) rfl trivial ss_sub (q_mvv (v := .bool _) rfl) ?_ | refine JD.calc 3 (by kernel_rfl) rfl trivial ss_sub (q_mv) ?_
  first | refine JD.calc 4 (by kernel_rfl) rfl ⟨_, rfl, (congrArg Value.bool (decide_eq_true (by omega)))⟩ ss_sub (q_mvv (v := .slice _ _ _) rfl) ?_ | refine JD.calc 4 (by kernel_rfl) rfl ⟨_, rfl, (congrArg Value.bool (decide_eq_true (by omega)))⟩ ss_sub (q_mv) ?_
  first | refine JD.calc 5 (by kernel_rfl) rfl ⟨_, rfl, (congrArg Value.bool (decide_eq_true (by omega)))⟩ ss_sub (q_mvv (v := .slice _ _ _) rfl) ?_ | refine JD.calc 5 (by kernel_rfl) rfl ⟨_, rfl, (congrArg Value.bool (decide_eq_true (by omega)))⟩ ss_sub (q_mv) ?_
  refine JD.calc 6 (by kernel_rfl) rfl ⟨_, rfl, (congrArg Value.bool (decide_eq_true (by omega)))⟩ ss_sub (q_len rfl) ?_
  refine JD.calc 7 (by kernel_rfl) rfl ⟨_, rfl, (congrArg Value.bool (decide_eq_true (by omega)))⟩ ss_sub (q_sub (c := ((l.length - 1 : Nat) : Int)) rfl rfl (by rw [wi64 (by omega)]; omega)) ?_
  refine JD.calc 8 (by kernel_rfl) rfl ⟨_, rfl, (congrArg Value.bool (decide_eq_true (by omega)))⟩ ss_sub (q_ia rfl rfl (by omega)) ?_
  refine JD.calc 9 (by kernel_rfl) rfl ⟨_, rfl, (congrArg Value.bool (decide_eq_true (by omega)))⟩ ss_sub (q_fa rfl) ?_
  refine JD.load 10 (by kernel_rfl) rfl ⟨_, rfl, (congrArg Value.bool (decide_eq_true (by omega)))⟩ (q_ldf rfl hcx0) ?_
  refine JD.calc 11 (by kernel_rfl) rfl ⟨_, rfl, (congrArg Value.bool (decide_eq_true (by omega)))⟩ ss_sub (q_fa rfl) ?_
  refine JD.load 12 (by kernel_rfl) rfl ⟨_, rfl, (congrArg Value.bool (decide_eq_true (by omega)))⟩ (q_ld rfl inferInstance rfl) ?_
  refine JD.calc 13 (by kernel_rfl) rfl ⟨_, rfl, (congrArg Value.bool (decide_eq_true (by omega)))⟩ ss_sub (q_geq rfl rfl) ?_
  first | refine JD.calc 14 (by kernel_rfl) rfl trivial ss_sub (q_pickTv (v := .bool _) rfl (decide_eq_true (by omega)) rfl) ?_ | refine JD.calc 14 (by kernel_rfl) rfl trivial ss_sub (q_pickT rfl (decide_eq_true (by omega))) ?_
  refine JD.done (by kernel_rfl) ?_ _
  refine J.condT rfl (decide_eq_true hc) ?_
  refine J.seq ?_
  refine J.region ?_
  first | refine o_q (q_bd [.int _ _, .int _ _, .slice _ _ _] rfl) ?_ | refine o_q (q_bd [_, _, _] rfl) ?_
  refine o_stw (vs := [_, _, _]) rfl rfl rfl inferInstance rfl rfl ?_
  refine o_q (q_as) ?_
  refine JL.nil ?_
  refine J.ret ?_
  exact ret_ok (fn := Try.f24) rfl (.agg rfl inferInstance inferInstance (.tmp rfl .nil)) rfl
theorem remover_err {h : Heap} {rows cols i : Int} {p : Option Addr} {n c : Nat} (hi : i < 0 ∨ (0 ≤ i ∧ rows ≤ i)) :
    Fn Try.prog 26 #[.agg ⟨[.int .i64 rows, .int .i64 cols, .slice p n c]⟩, .int .i64 i] h fun r _ => r = .tuple ⟨[noSparse, .int .i64 1]⟩ := by
  refine Fn.intro (args := [_, _]) Try.func26 rfl rfl (Nat.le_of_ble_eq_true rfl) fun w => ?_
  refine J.seq ?_
  refine J.region ?_
  first | refine o_bx (v := .agg _) rfl rfl (fun b2 => ?_) | refine o_bx rfl rfl (fun b2 => ?_)
  refine o_al (fun b4 => ?_)
  refine o_q (q_as) ?_
  refine JL.nil ?_
  refine J.seq ?_
  refine J.seq ?_
  rcases hi with q1 | ⟨q1, q2⟩
  ·
    refine J.region ?_
    first | refine o_q (q_mvv (v := .int _ _) rfl) ?_ | refine o_q (q_mv) ?_
    refine o_q (q_lss rfl rfl) ?_
    first | refine o_q (q_mvv (v := .bool _) rfl) ?_ | refine o_q (q_mv) ?_
    refine JL.guardF rfl rfl (decide_eq_true q1) rfl ?_
    refine JL.guardF rfl rfl (decide_eq_true q1) rfl ?_
    refine JL.guardF rfl rfl (decide_eq_true q1) rfl ?_
    refine JL.guardF rfl rfl (decide_eq_true q1) rfl ?_
    refine o_q (q_pickT rfl (decide_eq_true q1)) ?_
    refine JL.nil ?_
    refine J.condT rfl rfl ?_
    refine J.seq ?_
    refine J.region ?_
    first | refine o_q (q_bd [.int _ _, .int _ _, .slice _ _ _] rfl) ?_ | refine o_q (q_bd [_, _, _] rfl) ?_
    refine o_stw (vs := [_, _, _]) rfl rfl rfl inferInstance rfl rfl ?_
    refine o_q (q_as) ?_
    refine JL.nil ?_
    refine J.ret ?_
    exact ret_ok (fn := Try.f26) rfl (.agg rfl inferInstance inferInstance (.tmp rfl .nil)) rfl
  ·
    refine J.region ?_
    first | refine o_q (q_mvv (v := .int _ _) rfl) ?_ | refine o_q (q_mv) ?_
    refine o_q (q_lss rfl rfl) ?_
    first | refine o_q (q_mvv (v := .bool _) rfl) ?_ | refine o_q (q_mv) ?_
    refine JL.guardT rfl rfl (decide_eq_false (by omega)) ?_
    first | refine o_q (q_mvv (v := .int _ _) rfl) ?_ | refine o_q (q_mv) ?_
    refine JL.guardT rfl rfl (decide_eq_false (by omega)) ?_
    refine o_q (q_fa rfl) ?_
    refine JL.guardT rfl rfl (decide_eq_false (by omega)) ?_
    refine o_q (q_ld rfl inferInstance rfl) ?_
    refine JL.guardT rfl rfl (decide_eq_false (by omega)) ?_
    refine o_q (q_geq rfl rfl) ?_
    first | refine o_q (q_pickFv (v := .bool _) rfl (decide_eq_false (by omega)) rfl) ?_ | refine o_q (q_pickF rfl (decide_eq_false (by omega))) ?_
    refine JL.nil ?_
    refine J.condT rfl (decide_eq_true q2) ?_
    refine J.seq ?_
    refine J.region ?_
    first | refine o_q (q_bd [.int _ _, .int _ _, .slice _ _ _] rfl) ?_ | refine o_q (q_bd [_, _, _] rfl) ?_
    refine o_stw (vs := [_, _, _]) rfl rfl rfl inferInstance rfl rfl ?_
    refine o_q (q_as) ?_
    refine JL.nil ?_
    refine J.ret ?_
    exact ret_ok (fn := Try.f26) rfl (.agg rfl inferInstance inferInstance (.tmp rfl .nil)) rfl
/-- A row without some of its elements: those of the first k places whose place is not i. -/
def cut1 {α : Type} (i k : Nat) (L : List α) : List α := (L.take (min i k)) ++ (L.take k).drop (i + 1)
theorem cut1_eq {α : Type} {i k : Nat} {L : List α} (h : k = i) : cut1 i (k + 1) L = cut1 i k L := by
  subst h
  unfold cut1
  rw [Nat.min_eq_left (Nat.le_succ k), Nat.min_self, List.drop_eq_nil_of_le (by rw [List.length_take]; omega), List.drop_eq_nil_of_le (by rw [List.length_take]; omega)]
theorem cut1_ne {α : Type} {i k : Nat} {L : List α} {a : α} (h : k ≠ i) (hk : L[k]? = some a) : cut1 i (k + 1) L = cut1 i k L ++ [a] := by
  unfold cut1
  have hkl : k < L.length := (List.getElem?_eq_some_iff.1 hk).1
  rcases Nat.lt_or_ge k i with h1 | h1
  · rw [Nat.min_eq_right (by omega), Nat.min_eq_right (by omega), List.drop_eq_nil_of_le (by rw [List.length_take]; omega), List.drop_eq_nil_of_le (by rw [List.length_take]; omega), List.take_add_one, hk]; simp
  · rw [Nat.min_eq_left (by omega), Nat.min_eq_left (by omega), List.take_add_one, hk]
    rw [List.drop_append_of_le_length (by rw [List.length_take]; omega)]; simp
theorem cut1_len {α : Type} (i k : Nat) (L : List α) : (cut1 i k L).length ≤ L.length + L.length := by
  unfold cut1; simp; omega
set_option maxHeartbeats 4000000 in
theorem remover_ok {h : Heap} {v : Value} {rows cols : Int} {i : Nat} {L : List (List RT)} (hv : SparseAt h v rows cols L) (hrows : rows = L.length) (hN : L.length ≤ 1000000) (hi : i < L.length) :
    Fn Try.prog 26 #[v, .int .i64 (i : Int)] h fun r h' => ∃ v2, r = .tuple ⟨[v2, .int .i64 0]⟩ ∧ SparseAt h' v2 (rows - 1) cols (cut1 i L.length L) := by
  obtain ⟨p, c, rfl, hL⟩ := hv
  refine Fn.intro (args := [_, _]) Try.func26 rfl rfl (Nat.le_of_ble_eq_true rfl) fun w => ?_
  refine J.seq ?_
  refine J.region ?_
  first | refine o_bx (v := .agg _) rfl rfl (fun b2 => ?_) | refine o_bx rfl rfl (fun b2 => ?_)
  refine o_al (fun b4 => ?_)
  refine o_q (q_as) ?_
  refine JL.nil ?_
  refine J.seq ?_
  refine J.seq ?_
  refine J.region ?_
  first | refine o_q (q_mvv (v := .int _ _) rfl) ?_ | refine o_q (q_mv) ?_
  refine o_q (q_lss rfl rfl) ?_
  first | refine o_q (q_mvv (v := .bool _) rfl) ?_ | refine o_q (q_mv) ?_
  refine JL.guardT rfl rfl (decide_eq_false (by omega)) ?_
  first | refine o_q (q_mvv (v := .int _ _) rfl) ?_ | refine o_q (q_mv) ?_
  refine JL.guardT rfl rfl (decide_eq_false (by omega)) ?_
  refine o_q (q_fa rfl) ?_
  refine JL.guardT rfl rfl (decide_eq_false (by omega)) ?_
  refine o_q (q_ld rfl inferInstance rfl) ?_
  refine JL.guardT rfl rfl (decide_eq_false (by omega)) ?_
  refine o_q (q_geq rfl rfl) ?_
  first | refine o_q (q_pickFv (v := .bool _) rfl (decide_eq_false (by omega)) rfl) ?_ | refine o_q (q_pickF rfl (decide_eq_false (by omega))) ?_
  refine JL.nil ?_
  refine J.condF rfl (decide_eq_false (by omega)) ?_
  refine J.skip ?_
  refine J.seq ?_
  refine J.region ?_
  refine o_q (q_fa rfl) ?_
  refine o_q (q_ld rfl inferInstance rfl) ?_
  refine o_q (q_sub (c := rows - 1) rfl rfl (wi64 (by omega))) ?_
  refine o_q (q_fa rfl) ?_
  refine o_q (q_ld rfl inferInstance rfl) ?_
  first | refine o_q (q_bd [.int _ _, .int _ _, .slice _ _ _] rfl) ?_ | refine o_q (q_bd [_, _, _] rfl) ?_
  refine o_al (fun b6 => ?_)
  refine o_stw (vs := [_, _, _]) rfl rfl rfl inferInstance rfl rfl ?_
  refine JL.nil ?_
  -- cut: kept [4, 6], said []
  first | refine J.cutK (α := List Value × Option Addr × Nat × Own) (fun ⟨ys, pL, cL, Lb⟩ h' L' => OwnS 26 1 (.slice pL (cut1 i L.length L).length cL) (cut1 i L.length L).length ys Lb ∧ Cells (One RowAt) 1 h' ys (cut1 i L.length L) ∧ List.Sublist (Lb ++ [(b6, row 24 [.int .i64 (rows - 1), .int .i64 cols, .slice pL (cut1 i L.length L).length cL]), (b4, row 24 [.int .i64 0, .int .i64 0, .slice none 0 0])]) L') [(4, .pointer _), (6, .pointer _)] ⟨rfl, rfl, trivial⟩ (fun _ => []) ?_ ?_ | refine J.cutK (α := List Value × Option Addr × Nat × Own) (fun ⟨ys, pL, cL, Lb⟩ h' L' => OwnS 26 1 (.slice pL (cut1 i L.length L).length cL) (cut1 i L.length L).length ys Lb ∧ Cells (One RowAt) 1 h' ys (cut1 i L.length L) ∧ List.Sublist (Lb ++ [(b6, row 24 [.int .i64 (rows - 1), .int .i64 cols, .slice pL (cut1 i L.length L).length cL]), (b4, row 24 [.int .i64 0, .int .i64 0, .slice none 0 0])]) L') [(4, _), (6, _)] ⟨rfl, rfl, trivial⟩ (fun _ => []) ?_ ?_
  ·
    refine J.seq ?_
    refine J.region ?_
    refine o_q (q_as) ?_
    refine JL.nil ?_
    refine J.block ?_
    -- loop 0: kept [1, 2, 4, 6], said [7]
    first | refine J.loopK (α := Nat × List Value × Option Addr × Nat × Own) (fun ⟨k, ys, pL, cL, Lb⟩ h' L' => k ≤ L.length ∧ OwnS 26 1 (.slice pL (cut1 i k L).length cL) (cut1 i k L).length ys Lb ∧ Cells (One RowAt) 1 h' ys (cut1 i k L) ∧ List.Sublist (Lb ++ [(b6, row 24 [.int .i64 (rows - 1), .int .i64 cols, .slice pL (cut1 i k L).length cL]), (b4, row 24 [.int .i64 0, .int .i64 0, .slice none 0 0]), (b2, row 24 [.int .i64 rows, .int .i64 cols, .slice p L.length c])]) L') [(1, .int _ _), (2, .pointer _), (4, .pointer _), (6, .pointer _)] ⟨rfl, rfl, rfl, rfl, trivial⟩ (fun ⟨k, ys, pL, cL, Lb⟩ => [(7, .int .i64 (k : Int))]) (fun x => L.length - x.1) ((0, [], none, 0, [])) ⟨by omega, (by simpa [cut1] using OwnS.nil _ _), (by simpa [cut1] using Cells.nil), (by simp [cut1])⟩ ⟨rfl, trivial⟩ ?_ | refine J.loopK (α := Nat × List Value × Option Addr × Nat × Own) (fun ⟨k, ys, pL, cL, Lb⟩ h' L' => k ≤ L.length ∧ OwnS 26 1 (.slice pL (cut1 i k L).length cL) (cut1 i k L).length ys Lb ∧ Cells (One RowAt) 1 h' ys (cut1 i k L) ∧ List.Sublist (Lb ++ [(b6, row 24 [.int .i64 (rows - 1), .int .i64 cols, .slice pL (cut1 i k L).length cL]), (b4, row 24 [.int .i64 0, .int .i64 0, .slice none 0 0]), (b2, row 24 [.int .i64 rows, .int .i64 cols, .slice p L.length c])]) L') [(1, _), (2, _), (4, _), (6, _)] ⟨rfl, rfl, rfl, rfl, trivial⟩ (fun ⟨k, ys, pL, cL, Lb⟩ => [(7, .int .i64 (k : Int))]) (fun x => L.length - x.1) ((0, [], none, 0, [])) ⟨by omega, (by simpa [cut1] using OwnS.nil _ _), (by simpa [cut1] using Cells.nil), (by simp [cut1])⟩ ⟨rfl, trivial⟩ ?_
    rintro ⟨k, ys, pL, cL, Lb⟩ σ h1 L1 s1 ⟨hk, ho, hcs, hsub⟩
    refine J.sub hsub ?_
    refine J.seq ?_
    refine J.seq ?_
    refine J.region ?_
    first | refine o_q (q_mvv (v := .int _ _) rfl) ?_ | refine o_q (q_mv) ?_
    refine o_q (q_fa rfl) ?_
    refine o_q (q_ld rfl inferInstance rfl) ?_
    refine o_q (q_lss rfl rfl) ?_
    refine JL.nil ?_
    refine J.condD rfl (fun c1 => ?_) (fun c1 => ?_)
    ·
      obtain ⟨r, hr⟩ := lt_get (show k < L.length by omega)
      obtain ⟨kx, ox, qx, mx, nx, rfl, hcx, hrx⟩ := Sls.row hL hr
      have hcl := cut1_len i k L
      refine J.skip ?_
      refine J.seq ?_
      refine J.block ?_
      refine J.seq ?_
      refine J.region ?_
      first | refine o_q (q_mvv (v := .int _ _) rfl) ?_ | refine o_q (q_mv) ?_
      first | refine o_q (q_mvv (v := .int _ _) rfl) ?_ | refine o_q (q_mv) ?_
      refine o_q (q_neq rfl rfl) ?_
      refine JL.nil ?_
      refine J.condD rfl (fun c2 => ?_) (fun c2 => ?_)
      ·
        have hst := cut1_ne (i := i) (by omega) hr
        refine J.draw ([(b6, row 24 [.int .i64 (rows - 1), .int .i64 cols, .slice pL (cut1 i k L).length cL]), (b2, row 24 [.int .i64 rows, .int .i64 cols, .slice (some ⟨kx, ox, none⟩) L.length c])]) [10] ?_
        refine JD.calc 0 (by kernel_rfl) rfl trivial ss_sub (q_fa rfl) ?_
        refine JD.load 1 (by kernel_rfl) rfl trivial (q_ld rfl inferInstance rfl) ?_
        refine JD.calc 2 (by kernel_rfl) rfl trivial ss_sub (q_fa rfl) ?_
        refine JD.load 3 (by kernel_rfl) rfl trivial (q_ld rfl inferInstance rfl) ?_
        first | refine JD.calc 4 (by kernel_rfl) rfl trivial ss_sub (q_mvv (v := .int _ _) rfl) ?_ | refine JD.calc 4 (by kernel_rfl) rfl trivial ss_sub (q_mv) ?_
        refine JD.calc 5 (by kernel_rfl) rfl trivial ss_sub (q_ia rfl rfl (by omega)) ?_
        refine JD.load 6 (by kernel_rfl) rfl trivial (q_ldf rfl hcx) ?_
        refine JD.one 7 (by kernel_rfl) ?_
        refine JX.eff rfl rfl trivial ?_
        first | refine o_bs [.slice _ _ _] (by decide) rfl (fun b39 => ?_) | refine o_bs [_] (by decide) rfl (fun b39 => ?_)
        refine JL.nil ⟨rfl, inferInstance, inferInstance, ?_⟩
        refine JD.one 8 (by kernel_rfl) ?_
        refine JX.eff rfl rfl trivial ?_
        refine o_app (m := 1) rfl rfl ho inferInstance (src_own inferInstance (LookN.all _) rfl (by simp [plain])) (by omega) (fun v40 L40 ho40 => ?_)
        obtain ⟨p40, c40, rfl⟩ := ho40.out
        refine JL.nil ⟨rfl, inferInstance, inferInstance, ?_⟩
        refine JD.calc 9 (by kernel_rfl) rfl trivial ss_sub (q_fa rfl) ?_
        refine JD.one 10 (by kernel_rfl) ?_
        refine JX.mut rfl rfl trivial ?_
        first | refine o_st1 (v := .slice _ _ _) rfl rfl rfl inferInstance (by first | decide | simp) ?_ | refine o_st1 rfl rfl rfl inferInstance (by first | decide | simp) ?_
        refine JL.nil ⟨rfl, ?_⟩
        refine JD.done (by kernel_rfl) ?_ _
        refine J.region ?_
        first | refine o_q (q_mvv (v := .int _ _) rfl) ?_ | refine o_q (q_mv) ?_
        refine o_q (q_add (c := ((k + 1 : Nat) : Int)) rfl rfl (by rw [wi64 (by omega)]; omega)) ?_
        first | refine o_q (q_asv (v := .int _ _) rfl) ?_ | refine o_q (q_as) ?_
        refine JL.nil ?_
        first
          | exact ⟨(k + 1, _, p40, c40, L40), rfl, ⟨rfl, rfl, rfl, rfl, trivial⟩, ⟨rfl, trivial⟩, ⟨by omega, (by rw [hst, List.length_append]; exact ho40), (by rw [hst]; exact hcs.mono.snoc rfl ⟨_, _, _, rfl, hrx.mono⟩), (by rw [hst, List.length_append]; repeat' first | exact List.Sublist.refl _ | apply List.Sublist.cons_cons | apply List.Sublist.append (List.Sublist.refl _) | apply List.Sublist.cons)⟩, by show L.length - (k + 1) < L.length - k; omega, inferInstance⟩
          | exact ⟨(k + 1, ys, pL, cL, Lb), rfl, ⟨rfl, rfl, rfl, rfl, trivial⟩, ⟨rfl, trivial⟩, ⟨by omega, (by rw [hst]; exact ho), (by rw [hst]; exact hcs.mono), (by rw [hst]; repeat' first | exact List.Sublist.refl _ | apply List.Sublist.cons_cons | apply List.Sublist.append (List.Sublist.refl _) | apply List.Sublist.cons)⟩, by show L.length - (k + 1) < L.length - k; omega, inferInstance⟩
      ·
        have hst := cut1_eq (L := L) (show k = i by omega)
        refine J.skip ?_
        refine J.region ?_
        first | refine o_q (q_mvv (v := .int _ _) rfl) ?_ | refine o_q (q_mv) ?_
        refine o_q (q_add (c := ((k + 1 : Nat) : Int)) rfl rfl (by rw [wi64 (by omega)]; omega)) ?_
        first | refine o_q (q_asv (v := .int _ _) rfl) ?_ | refine o_q (q_as) ?_
        refine JL.nil ?_
        first
          | exact ⟨(k + 1, _, p40, c40, L40), rfl, ⟨rfl, rfl, rfl, rfl, trivial⟩, ⟨rfl, trivial⟩, ⟨by omega, (by rw [hst, List.length_append]; exact ho40), (by rw [hst]; exact hcs.mono.snoc rfl ⟨_, _, _, rfl, hrx.mono⟩), (by rw [hst, List.length_append]; repeat' first | exact List.Sublist.refl _ | apply List.Sublist.cons_cons | apply List.Sublist.append (List.Sublist.refl _) | apply List.Sublist.cons)⟩, by show L.length - (k + 1) < L.length - k; omega, inferInstance⟩
          | exact ⟨(k + 1, ys, pL, cL, Lb), rfl, ⟨rfl, rfl, rfl, rfl, trivial⟩, ⟨rfl, trivial⟩, ⟨by omega, (by rw [hst]; exact ho), (by rw [hst]; exact hcs.mono), (by rw [hst]; repeat' first | exact List.Sublist.refl _ | apply List.Sublist.cons_cons | apply List.Sublist.append (List.Sublist.refl _) | apply List.Sublist.cons)⟩, by show L.length - (k + 1) < L.length - k; omega, inferInstance⟩
    ·
      refine J.exit ?_
      obtain rfl : k = L.length := by omega
      exact ⟨(ys, pL, cL, Lb), rfl, ⟨rfl, rfl, trivial⟩, trivial, ⟨ho, hcs, by repeat' first | exact List.Sublist.refl _ | apply List.Sublist.cons_cons | apply List.Sublist.append (List.Sublist.refl _) | apply List.Sublist.cons | exact List.nil_sublist _⟩, inferInstance⟩
  ·
    rintro ⟨ys, pL, cL, Lb⟩ σ9 h9 L9 s9 ⟨ho, hcs, hsub⟩
    refine J.sub hsub ?_
    refine J.seq ?_
    refine J.fzS ho (fun h11 s11 hs11 => ?_)
    refine J.region ?_
    refine o_q (q_lda (vs := [_, _, _]) rfl inferInstance ⟨rfl, rfl, rfl, trivial⟩) ?_
    refine o_stw (vs := [_, _, _]) rfl rfl rfl inferInstance rfl rfl ?_
    refine o_q (q_as) ?_
    refine JL.nil ?_
    refine J.ret ?_
    exact ret_ok (fn := Try.f26) rfl (.agg rfl inferInstance inferInstance (.tmp rfl .nil)) ⟨_, rfl, _, _, rfl, Sls.of hs11 hcs.mono rfl⟩
theorem ins_step {α : Type} {L : List α} {i k : Nat} {l a : α} (hik : i ≤ k) (hk : L[k]? = some a) : L.take i ++ [l] ++ (L.drop i).take (k + 1 - i) = (L.take i ++ [l] ++ (L.drop i).take (k - i)) ++ [a] := by
  have : (L.drop i)[k - i]? = some a := by rw [List.getElem?_drop, show i + (k - i) = k by omega]; exact hk
  rw [show k + 1 - i = (k - i) + 1 by omega, List.take_add_one, this]; simp
theorem ins_len {α : Type} {L : List α} {i k : Nat} {l : α} (hik : i ≤ k) (hk : k ≤ L.length) : (L.take i ++ [l] ++ (L.drop i).take (k - i)).length = k + 1 := by
  simp; omega
set_option maxHeartbeats 4000000 in
theorem insertr_ok {h : Heap} {v : Value} {rows cols : Int} {i : Nat} {L : List (List RT)} (hv : SparseAt h v rows cols L) (hrows : rows = L.length) (hN : L.length ≤ 1000000) {vl : Value} {l : List RT} (hl : RowAt h vl l) (hi : i ≤ L.length) (hll : l.length ≤ 1000000) (hlc : l = [] ∨ ∃ t, l[l.length - 1]? = some t ∧ t.1 < cols) :
    Fn Try.prog 24 #[v, .int .i64 (i : Int), vl] h fun r h' => ∃ v2, r = .tuple ⟨[v2, .int .i64 0]⟩ ∧ SparseAt h' v2 (rows + 1) cols (L.take i ++ [l] ++ L.drop i) := by
  obtain ⟨p, c, rfl, hL⟩ := hv
  obtain ⟨pl, cl, rfl, hcl⟩ := hl.out
  refine Fn.intro (args := [_, _, _]) Try.func24 rfl rfl (Nat.le_of_ble_eq_true rfl) fun w => ?_
  refine J.seq ?_
  refine J.region ?_
  first | refine o_bx (v := .agg _) rfl rfl (fun b3 => ?_) | refine o_bx rfl rfl (fun b3 => ?_)
  refine o_al (fun b6 => ?_)
  refine o_q (q_as) ?_
  refine JL.nil ?_
  refine J.seq ?_
  refine J.seq ?_
  refine J.region ?_
  first | refine o_q (q_mvv (v := .int _ _) rfl) ?_ | refine o_q (q_mv) ?_
  refine o_q (q_lss rfl rfl) ?_
  first | refine o_q (q_mvv (v := .bool _) rfl) ?_ | refine o_q (q_mv) ?_
  refine JL.guardT rfl rfl (decide_eq_false (by omega)) ?_
  first | refine o_q (q_mvv (v := .int _ _) rfl) ?_ | refine o_q (q_mv) ?_
  refine JL.guardT rfl rfl (decide_eq_false (by omega)) ?_
  refine o_q (q_fa rfl) ?_
  refine JL.guardT rfl rfl (decide_eq_false (by omega)) ?_
  refine o_q (q_ld rfl inferInstance rfl) ?_
  refine JL.guardT rfl rfl (decide_eq_false (by omega)) ?_
  refine o_q (q_gtr rfl rfl) ?_
  first | refine o_q (q_pickFv (v := .bool _) rfl (decide_eq_false (by omega)) rfl) ?_ | refine o_q (q_pickF rfl (decide_eq_false (by omega))) ?_
  refine JL.nil ?_
  refine J.condF rfl (decide_eq_false (by omega)) ?_
  refine J.skip ?_
  refine J.seq ?_
  refine J.seq ?_
  rcases hlc with q1 | ⟨t, ht, q1⟩
  ·
    have hl0 : l.length = 0 := by rw [q1]; rfl
    refine J.drawA [] ?_
    first | refine JD.calc 0 (by kernel_rfl) rfl trivial ss_sub (q_mvv (v := .slice _ _ _) rfl) ?_ | refine JD.calc 0 (by kernel_rfl) rfl trivial ss_sub (q_mv) ?_
    refine JD.calc 1 (by kernel_rfl) rfl trivial ss_sub (q_len rfl) ?_
    refine JD.calc 2 (by kernel_rfl) rfl trivial ss_sub (q_gtr rfl rfl) ?_
    first | refine JD.calc 3 (by kernel_rfl) rfl trivial ss_sub (q_mvv (v := .bool _) rfl) ?_ | refine JD.calc 3 (by kernel_rfl) rfl trivial ss_sub (q_mv) ?_
    refine JD.pass 4 (by kernel_rfl) rfl rfl (congrArg Value.bool (decide_eq_false (by omega))) ss_sub ?_
    refine JD.pass 5 (by kernel_rfl) rfl rfl (congrArg Value.bool (decide_eq_false (by omega))) ss_sub ?_
    refine JD.pass 6 (by kernel_rfl) rfl rfl (congrArg Value.bool (decide_eq_false (by omega))) ss_sub ?_
    refine JD.pass 7 (by kernel_rfl) rfl rfl (congrArg Value.bool (decide_eq_false (by omega))) ss_sub ?_
    refine JD.pass 8 (by kernel_rfl) rfl rfl (congrArg Value.bool (decide_eq_false (by omega))) ss_sub ?_
    refine JD.pass 9 (by kernel_rfl) rfl rfl (congrArg Value.bool (decide_eq_false (by omega))) ss_sub ?_
    refine JD.pass 10 (by kernel_rfl) rfl rfl (congrArg Value.bool (decide_eq_false (by omega))) ss_sub ?_
    refine JD.pass 11 (by kernel_rfl) rfl rfl (congrArg Value.bool (decide_eq_false (by omega))) ss_sub ?_
    refine JD.pass 12 (by kernel_rfl) rfl rfl (congrArg Value.bool (decide_eq_false (by omega))) ss_sub ?_
    refine JD.pass 13 (by kernel_rfl) rfl rfl (congrArg Value.bool (decide_eq_false (by omega))) ss_sub ?_
    refine JD.calc 14 (by kernel_rfl) rfl trivial ss_sub (q_pickF rfl (decide_eq_false (by omega))) ?_
    refine JD.done (by kernel_rfl) ?_ _
    refine J.condF rfl rfl ?_
    refine J.skip ?_
    refine J.seq ?_
    refine J.region ?_
    refine o_q (q_fa rfl) ?_
    refine o_q (q_ld rfl inferInstance rfl) ?_
    refine o_q (q_add (c := rows + 1) rfl rfl (wi64 (by omega))) ?_
    refine o_q (q_fa rfl) ?_
    refine o_q (q_ld rfl inferInstance rfl) ?_
    first | refine o_q (q_bd [.int _ _, .int _ _, .slice _ _ _] rfl) ?_ | refine o_q (q_bd [_, _, _] rfl) ?_
    refine o_al (fun b8 => ?_)
    refine o_stw (vs := [_, _, _]) rfl rfl rfl inferInstance rfl rfl ?_
    refine JL.nil ?_
    -- cut: kept [1, 2, 3, 6, 8], said []
    first | refine J.cutK (α := List Value × Option Addr × Nat × Own) (fun ⟨ys, pL, cL, Lb⟩ h' L' => OwnS 26 1 (.slice pL i cL) i ys Lb ∧ Cells (One RowAt) 1 h' ys (L.take i) ∧ List.Sublist (Lb ++ [(b8, row 24 [.int .i64 (rows + 1), .int .i64 cols, .slice pL i cL]), (b6, row 24 [.int .i64 0, .int .i64 0, .slice none 0 0]), (b3, row 24 [.int .i64 rows, .int .i64 cols, .slice p L.length c])]) L') [(1, .int _ _), (2, .slice _ _ _), (3, .pointer _), (6, .pointer _), (8, .pointer _)] ⟨rfl, rfl, rfl, rfl, rfl, trivial⟩ (fun _ => []) ?_ ?_ | refine J.cutK (α := List Value × Option Addr × Nat × Own) (fun ⟨ys, pL, cL, Lb⟩ h' L' => OwnS 26 1 (.slice pL i cL) i ys Lb ∧ Cells (One RowAt) 1 h' ys (L.take i) ∧ List.Sublist (Lb ++ [(b8, row 24 [.int .i64 (rows + 1), .int .i64 cols, .slice pL i cL]), (b6, row 24 [.int .i64 0, .int .i64 0, .slice none 0 0]), (b3, row 24 [.int .i64 rows, .int .i64 cols, .slice p L.length c])]) L') [(1, _), (2, _), (3, _), (6, _), (8, _)] ⟨rfl, rfl, rfl, rfl, rfl, trivial⟩ (fun _ => []) ?_ ?_
    ·
      refine J.seq ?_
      refine J.region ?_
      refine o_q (q_as) ?_
      refine JL.nil ?_
      refine J.block ?_
      -- loop 0: kept [1, 2, 3, 6, 8], said [9]
      first | refine J.loopK (α := Nat × List Value × Option Addr × Nat × Own) (fun ⟨k, ys, pL, cL, Lb⟩ h' L' => 0 ≤ k ∧ k ≤ i ∧ OwnS 26 1 (.slice pL k cL) k ys Lb ∧ Cells (One RowAt) 1 h' ys (L.take k) ∧ List.Sublist (Lb ++ [(b8, row 24 [.int .i64 (rows + 1), .int .i64 cols, .slice pL k cL]), (b6, row 24 [.int .i64 0, .int .i64 0, .slice none 0 0]), (b3, row 24 [.int .i64 rows, .int .i64 cols, .slice p L.length c])]) L') [(1, .int _ _), (2, .slice _ _ _), (3, .pointer _), (6, .pointer _), (8, .pointer _)] ⟨rfl, rfl, rfl, rfl, rfl, trivial⟩ (fun ⟨k, ys, pL, cL, Lb⟩ => [(9, .int .i64 (k : Int))]) (fun x => L.length - x.1) ((0, [], none, 0, [])) ⟨by omega, by omega, OwnS.nil _ _, Cells.nil, List.Sublist.refl _⟩ ⟨rfl, trivial⟩ ?_ | refine J.loopK (α := Nat × List Value × Option Addr × Nat × Own) (fun ⟨k, ys, pL, cL, Lb⟩ h' L' => 0 ≤ k ∧ k ≤ i ∧ OwnS 26 1 (.slice pL k cL) k ys Lb ∧ Cells (One RowAt) 1 h' ys (L.take k) ∧ List.Sublist (Lb ++ [(b8, row 24 [.int .i64 (rows + 1), .int .i64 cols, .slice pL k cL]), (b6, row 24 [.int .i64 0, .int .i64 0, .slice none 0 0]), (b3, row 24 [.int .i64 rows, .int .i64 cols, .slice p L.length c])]) L') [(1, _), (2, _), (3, _), (6, _), (8, _)] ⟨rfl, rfl, rfl, rfl, rfl, trivial⟩ (fun ⟨k, ys, pL, cL, Lb⟩ => [(9, .int .i64 (k : Int))]) (fun x => L.length - x.1) ((0, [], none, 0, [])) ⟨by omega, by omega, OwnS.nil _ _, Cells.nil, List.Sublist.refl _⟩ ⟨rfl, trivial⟩ ?_
      rintro ⟨k, ys, pL, cL, Lb⟩ σ h1 L1 s1 ⟨hik, hk, ho, hcs, hsub⟩
      refine J.sub hsub ?_
      refine J.seq ?_
      refine J.seq ?_
      refine J.region ?_
      first | refine o_q (q_mvv (v := .int _ _) rfl) ?_ | refine o_q (q_mv) ?_
      first | refine o_q (q_mvv (v := .int _ _) rfl) ?_ | refine o_q (q_mv) ?_
      refine o_q (q_lss rfl rfl) ?_
      refine JL.nil ?_
      refine J.condD rfl (fun c1 => ?_) (fun c1 => ?_)
      ·
        obtain ⟨r, hr⟩ := lt_get (show k < L.length by omega)
        obtain ⟨kx, ox, qx, mx, nx, rfl, hcx, hrx⟩ := Sls.row hL hr
        refine J.skip ?_
        refine J.seq ?_
        refine J.block ?_
        refine J.draw ([(b8, row 24 [.int .i64 (rows + 1), .int .i64 cols, .slice pL k cL]), (b3, row 24 [.int .i64 rows, .int .i64 cols, .slice (some ⟨kx, ox, none⟩) L.length c])]) [10] ?_
        refine JD.calc 0 (by kernel_rfl) rfl trivial ss_sub (q_fa rfl) ?_
        refine JD.load 1 (by kernel_rfl) rfl trivial (q_ld rfl inferInstance rfl) ?_
        refine JD.calc 2 (by kernel_rfl) rfl trivial ss_sub (q_fa rfl) ?_
        refine JD.load 3 (by kernel_rfl) rfl trivial (q_ld rfl inferInstance rfl) ?_
        first | refine JD.calc 4 (by kernel_rfl) rfl trivial ss_sub (q_mvv (v := .int _ _) rfl) ?_ | refine JD.calc 4 (by kernel_rfl) rfl trivial ss_sub (q_mv) ?_
        refine JD.calc 5 (by kernel_rfl) rfl trivial ss_sub (q_ia rfl rfl (by omega)) ?_
        refine JD.load 6 (by kernel_rfl) rfl trivial (q_ldf rfl hcx) ?_
        refine JD.one 7 (by kernel_rfl) ?_
        refine JX.eff rfl rfl trivial ?_
        first | refine o_bs [.slice _ _ _] (by decide) rfl (fun b54 => ?_) | refine o_bs [_] (by decide) rfl (fun b54 => ?_)
        refine JL.nil ⟨rfl, inferInstance, inferInstance, ?_⟩
        refine JD.one 8 (by kernel_rfl) ?_
        refine JX.eff rfl rfl trivial ?_
        refine o_app (m := 1) rfl rfl ho inferInstance (src_own inferInstance (LookN.all _) rfl (by simp [plain])) (by omega) (fun v40 L40 ho40 => ?_)
        obtain ⟨p40, c40, rfl⟩ := ho40.out
        refine JL.nil ⟨rfl, inferInstance, inferInstance, ?_⟩
        refine JD.calc 9 (by kernel_rfl) rfl trivial ss_sub (q_fa rfl) ?_
        refine JD.one 10 (by kernel_rfl) ?_
        refine JX.mut rfl rfl trivial ?_
        first | refine o_st1 (v := .slice _ _ _) rfl rfl rfl inferInstance (by first | decide | simp) ?_ | refine o_st1 rfl rfl rfl inferInstance (by first | decide | simp) ?_
        refine JL.nil ⟨rfl, ?_⟩
        refine JD.done (by kernel_rfl) ?_ _
        refine J.region ?_
        first | refine o_q (q_mvv (v := .int _ _) rfl) ?_ | refine o_q (q_mv) ?_
        refine o_q (q_add (c := ((k + 1 : Nat) : Int)) rfl rfl (by rw [wi64 (by omega)]; omega)) ?_
        first | refine o_q (q_asv (v := .int _ _) rfl) ?_ | refine o_q (q_as) ?_
        refine JL.nil ?_
        exact ⟨(k + 1, _, p40, c40, L40), rfl, ⟨rfl, rfl, rfl, rfl, rfl, trivial⟩, ⟨rfl, trivial⟩, ⟨by omega, by omega, ho40, (by rw [List.take_add_one, hr]; exact hcs.mono.snoc rfl ⟨_, _, _, rfl, hrx.mono⟩), (by repeat' first | exact List.Sublist.refl _ | apply List.Sublist.cons_cons | apply List.Sublist.append (List.Sublist.refl _) | apply List.Sublist.cons | exact List.nil_sublist _)⟩, by show L.length - (k + 1) < L.length - k; omega, inferInstance⟩
      ·
        refine J.exit ?_
        obtain rfl : k = i := by omega
        exact ⟨(ys, pL, cL, Lb), rfl, ⟨rfl, rfl, rfl, rfl, rfl, trivial⟩, trivial, ⟨ho, hcs, (by repeat' first | exact List.Sublist.refl _ | apply List.Sublist.cons_cons | apply List.Sublist.append (List.Sublist.refl _) | apply List.Sublist.cons | exact List.nil_sublist _)⟩, inferInstance⟩
    ·
      rintro ⟨ys, pL, cL, Lb⟩ σ5 h5 L5 s5 ⟨ho, hcs, hsub⟩
      refine J.sub hsub ?_
      refine J.seq ?_
      refine J.region ?_
      refine o_q (q_fa rfl) ?_
      refine o_q (q_ld rfl inferInstance rfl) ?_
      first | refine o_q (q_mvv (v := .slice _ _ _) rfl) ?_ | refine o_q (q_mv) ?_
      first | refine o_bs [.slice _ _ _] (by decide) rfl (fun b60 => ?_) | refine o_bs [_] (by decide) rfl (fun b60 => ?_)
      refine o_app (m := 1) rfl rfl ho inferInstance (src_own inferInstance (LookN.all _) rfl (by simp [plain])) (by omega) (fun v61 L61 ho61 => ?_)
      obtain ⟨p61, c61, rfl⟩ := ho61.out
      refine o_q (q_fa rfl) ?_
      first | refine o_st1 (v := .slice _ _ _) rfl rfl rfl inferInstance (by first | decide | simp) ?_ | refine o_st1 rfl rfl rfl inferInstance (by first | decide | simp) ?_
      refine JL.nil ?_
      -- cut: kept [6, 8], said []
      first | refine J.cutK (α := List Value × Option Addr × Nat × Own) (fun ⟨ys, pL, cL, Lb⟩ h' L' => OwnS 26 1 (.slice pL (L.length + 1) cL) (L.length + 1) ys Lb ∧ Cells (One RowAt) 1 h' ys (L.take i ++ [l] ++ L.drop i) ∧ List.Sublist (Lb ++ [(b8, row 24 [.int .i64 (rows + 1), .int .i64 cols, .slice pL (L.length + 1) cL]), (b6, row 24 [.int .i64 0, .int .i64 0, .slice none 0 0])]) L') [(6, .pointer _), (8, .pointer _)] ⟨rfl, rfl, trivial⟩ (fun _ => []) ?_ ?_ | refine J.cutK (α := List Value × Option Addr × Nat × Own) (fun ⟨ys, pL, cL, Lb⟩ h' L' => OwnS 26 1 (.slice pL (L.length + 1) cL) (L.length + 1) ys Lb ∧ Cells (One RowAt) 1 h' ys (L.take i ++ [l] ++ L.drop i) ∧ List.Sublist (Lb ++ [(b8, row 24 [.int .i64 (rows + 1), .int .i64 cols, .slice pL (L.length + 1) cL]), (b6, row 24 [.int .i64 0, .int .i64 0, .slice none 0 0])]) L') [(6, _), (8, _)] ⟨rfl, rfl, trivial⟩ (fun _ => []) ?_ ?_
      ·
        refine J.seq ?_
        refine J.drop ?_
        have hcs10 := hcs.mono.snoc rfl (show One RowAt h5 [_] l from ⟨_, _, _, rfl, hl.mono⟩)
        refine J.region ?_
        first | refine o_q (q_mvv (v := .int _ _) rfl) ?_ | refine o_q (q_mv) ?_
        first | refine o_q (q_asv (v := .int _ _) rfl) ?_ | refine o_q (q_as) ?_
        refine JL.nil ?_
        refine J.block ?_
        -- loop 1: kept [3, 6, 8], said [10]
        first | refine J.loopK (α := Nat × List Value × Option Addr × Nat × Own) (fun ⟨k, ys, pL, cL, Lb⟩ h' L' => i ≤ k ∧ k ≤ L.length ∧ OwnS 26 1 (.slice pL (k + 1) cL) (k + 1) ys Lb ∧ Cells (One RowAt) 1 h' ys (L.take i ++ [l] ++ (L.drop i).take (k - i)) ∧ List.Sublist (Lb ++ [(b8, row 24 [.int .i64 (rows + 1), .int .i64 cols, .slice pL (k + 1) cL]), (b6, row 24 [.int .i64 0, .int .i64 0, .slice none 0 0]), (b3, row 24 [.int .i64 rows, .int .i64 cols, .slice p L.length c])]) L') [(3, .pointer _), (6, .pointer _), (8, .pointer _)] ⟨rfl, rfl, rfl, trivial⟩ (fun ⟨k, ys, pL, cL, Lb⟩ => [(10, .int .i64 (k : Int))]) (fun x => L.length - x.1) ((i, _, p61, c61, L61)) ⟨by omega, by omega, (by simpa using ho61), (by simpa using hcs10), List.Sublist.refl _⟩ ⟨rfl, trivial⟩ ?_ | refine J.loopK (α := Nat × List Value × Option Addr × Nat × Own) (fun ⟨k, ys, pL, cL, Lb⟩ h' L' => i ≤ k ∧ k ≤ L.length ∧ OwnS 26 1 (.slice pL (k + 1) cL) (k + 1) ys Lb ∧ Cells (One RowAt) 1 h' ys (L.take i ++ [l] ++ (L.drop i).take (k - i)) ∧ List.Sublist (Lb ++ [(b8, row 24 [.int .i64 (rows + 1), .int .i64 cols, .slice pL (k + 1) cL]), (b6, row 24 [.int .i64 0, .int .i64 0, .slice none 0 0]), (b3, row 24 [.int .i64 rows, .int .i64 cols, .slice p L.length c])]) L') [(3, _), (6, _), (8, _)] ⟨rfl, rfl, rfl, trivial⟩ (fun ⟨k, ys, pL, cL, Lb⟩ => [(10, .int .i64 (k : Int))]) (fun x => L.length - x.1) ((i, _, p61, c61, L61)) ⟨by omega, by omega, (by simpa using ho61), (by simpa using hcs10), List.Sublist.refl _⟩ ⟨rfl, trivial⟩ ?_
        rintro ⟨k, ys, pL, cL, Lb⟩ σb h1b L1b s1b ⟨hik, hk, ho, hcs, hsub⟩
        refine J.sub hsub ?_
        refine J.seq ?_
        refine J.seq ?_
        refine J.region ?_
        first | refine o_q (q_mvv (v := .int _ _) rfl) ?_ | refine o_q (q_mv) ?_
        refine o_q (q_fa rfl) ?_
        refine o_q (q_ld rfl inferInstance rfl) ?_
        refine o_q (q_lss rfl rfl) ?_
        refine JL.nil ?_
        refine J.condD rfl (fun c3 => ?_) (fun c3 => ?_)
        ·
          obtain ⟨r, hr⟩ := lt_get (show k < L.length by omega)
          obtain ⟨kx, ox, qx, mx, nx, rfl, hcx, hrx⟩ := Sls.row hL hr
          refine J.skip ?_
          refine J.seq ?_
          refine J.block ?_
          refine J.draw ([(b8, row 24 [.int .i64 (rows + 1), .int .i64 cols, .slice pL (k + 1) cL]), (b3, row 24 [.int .i64 rows, .int .i64 cols, .slice (some ⟨kx, ox, none⟩) L.length c])]) [10] ?_
          refine JD.calc 0 (by kernel_rfl) rfl trivial ss_sub (q_fa rfl) ?_
          refine JD.load 1 (by kernel_rfl) rfl trivial (q_ld rfl inferInstance rfl) ?_
          refine JD.calc 2 (by kernel_rfl) rfl trivial ss_sub (q_fa rfl) ?_
          refine JD.load 3 (by kernel_rfl) rfl trivial (q_ld rfl inferInstance rfl) ?_
          first | refine JD.calc 4 (by kernel_rfl) rfl trivial ss_sub (q_mvv (v := .int _ _) rfl) ?_ | refine JD.calc 4 (by kernel_rfl) rfl trivial ss_sub (q_mv) ?_
          refine JD.calc 5 (by kernel_rfl) rfl trivial ss_sub (q_ia rfl rfl (by omega)) ?_
          refine JD.load 6 (by kernel_rfl) rfl trivial (q_ldf rfl hcx) ?_
          refine JD.one 7 (by kernel_rfl) ?_
          refine JX.eff rfl rfl trivial ?_
          first | refine o_bs [.slice _ _ _] (by decide) rfl (fun b77 => ?_) | refine o_bs [_] (by decide) rfl (fun b77 => ?_)
          refine JL.nil ⟨rfl, inferInstance, inferInstance, ?_⟩
          refine JD.one 8 (by kernel_rfl) ?_
          refine JX.eff rfl rfl trivial ?_
          refine o_app (m := 1) rfl rfl ho inferInstance (src_own inferInstance (LookN.all _) rfl (by simp [plain])) (by omega) (fun v78 L78 ho78 => ?_)
          obtain ⟨p78, c78, rfl⟩ := ho78.out
          refine JL.nil ⟨rfl, inferInstance, inferInstance, ?_⟩
          refine JD.calc 9 (by kernel_rfl) rfl trivial ss_sub (q_fa rfl) ?_
          refine JD.one 10 (by kernel_rfl) ?_
          refine JX.mut rfl rfl trivial ?_
          first | refine o_st1 (v := .slice _ _ _) rfl rfl rfl inferInstance (by first | decide | simp) ?_ | refine o_st1 rfl rfl rfl inferInstance (by first | decide | simp) ?_
          refine JL.nil ⟨rfl, ?_⟩
          refine JD.done (by kernel_rfl) ?_ _
          refine J.region ?_
          first | refine o_q (q_mvv (v := .int _ _) rfl) ?_ | refine o_q (q_mv) ?_
          refine o_q (q_add (c := ((k + 1 : Nat) : Int)) rfl rfl (by rw [wi64 (by omega)]; omega)) ?_
          first | refine o_q (q_asv (v := .int _ _) rfl) ?_ | refine o_q (q_as) ?_
          refine JL.nil ?_
          exact ⟨(k + 1, _, p78, c78, L78), rfl, ⟨rfl, rfl, rfl, trivial⟩, ⟨rfl, trivial⟩, ⟨by omega, by omega, ho78, (by rw [ins_step hik hr]; exact hcs.mono.snoc rfl ⟨_, _, _, rfl, hrx.mono⟩), (by repeat' first | exact List.Sublist.refl _ | apply List.Sublist.cons_cons | apply List.Sublist.append (List.Sublist.refl _) | apply List.Sublist.cons | exact List.nil_sublist _)⟩, by show L.length - (k + 1) < L.length - k; omega, inferInstance⟩
        ·
          refine J.exit ?_
          obtain rfl : k = L.length := by omega
          rw [List.take_of_length_le (l := L.drop i) (by rw [List.length_drop]; omega)] at hcs
          exact ⟨(ys, pL, cL, Lb), rfl, ⟨rfl, rfl, trivial⟩, trivial, ⟨ho, hcs, (by repeat' first | exact List.Sublist.refl _ | apply List.Sublist.cons_cons | apply List.Sublist.append (List.Sublist.refl _) | apply List.Sublist.cons | exact List.nil_sublist _)⟩, inferInstance⟩
      ·
        rintro ⟨ys, pL, cL, Lb⟩ σ9 h9 L9 s9 ⟨ho, hcs, hsub⟩
        refine J.sub hsub ?_
        refine J.seq ?_
        refine J.fzS ho (fun h11 s11 hs11 => ?_)
        refine J.region ?_
        refine o_q (q_lda (vs := [_, _, _]) rfl inferInstance ⟨rfl, rfl, rfl, trivial⟩) ?_
        refine o_stw (vs := [_, _, _]) rfl rfl rfl inferInstance rfl rfl ?_
        refine o_q (q_as) ?_
        refine JL.nil ?_
        refine J.ret ?_
        have hel : (L.take i ++ [l] ++ L.drop i).length = L.length + 1 := by
          simp only [List.length_append, List.length_take, List.length_drop, List.length_singleton]; omega
        exact ret_ok (fn := Try.f24) rfl (.agg rfl inferInstance inferInstance (.tmp rfl .nil)) ⟨_, rfl, pL, cL, (by rw [hel] <;> rfl), by rw [hel]; exact Sls.of hs11 hcs.mono hel.symm⟩
  ·
    have hl0 := (List.getElem?_eq_some_iff.1 ht).1
    obtain ⟨kz, oz, qz, nz, rfl, hcz0, hcz1, hcz, hnz, hmz⟩ := Sls.term hl ht
    refine J.drawA [] ?_
    first | refine JD.calc 0 (by kernel_rfl) rfl trivial ss_sub (q_mvv (v := .slice _ _ _) rfl) ?_ | refine JD.calc 0 (by kernel_rfl) rfl trivial ss_sub (q_mv) ?_
    refine JD.calc 1 (by kernel_rfl) rfl trivial ss_sub (q_len rfl) ?_
    refine JD.calc 2 (by kernel_rfl) rfl trivial ss_sub (q_gtr rfl rfl) ?_
    first | refine JD.calc 3 (by kernel_rfl) rfl trivial ss_sub (q_mvv (v := .bool _) rfl) ?_ | refine JD.calc 3 (by kernel_rfl) rfl trivial ss_sub (q_mv) ?_
    first | refine JD.calc 4 (by kernel_rfl) rfl ⟨_, rfl, (congrArg Value.bool (decide_eq_true (by omega)))⟩ ss_sub (q_mvv (v := .slice _ _ _) rfl) ?_ | refine JD.calc 4 (by kernel_rfl) rfl ⟨_, rfl, (congrArg Value.bool (decide_eq_true (by omega)))⟩ ss_sub (q_mv) ?_
    first | refine JD.calc 5 (by kernel_rfl) rfl ⟨_, rfl, (congrArg Value.bool (decide_eq_true (by omega)))⟩ ss_sub (q_mvv (v := .slice _ _ _) rfl) ?_ | refine JD.calc 5 (by kernel_rfl) rfl ⟨_, rfl, (congrArg Value.bool (decide_eq_true (by omega)))⟩ ss_sub (q_mv) ?_
    refine JD.calc 6 (by kernel_rfl) rfl ⟨_, rfl, (congrArg Value.bool (decide_eq_true (by omega)))⟩ ss_sub (q_len rfl) ?_
    refine JD.calc 7 (by kernel_rfl) rfl ⟨_, rfl, (congrArg Value.bool (decide_eq_true (by omega)))⟩ ss_sub (q_sub (c := ((l.length - 1 : Nat) : Int)) rfl rfl (by rw [wi64 (by omega)]; omega)) ?_
    refine JD.calc 8 (by kernel_rfl) rfl ⟨_, rfl, (congrArg Value.bool (decide_eq_true (by omega)))⟩ ss_sub (q_ia rfl rfl (by omega)) ?_
    refine JD.calc 9 (by kernel_rfl) rfl ⟨_, rfl, (congrArg Value.bool (decide_eq_true (by omega)))⟩ ss_sub (q_fa rfl) ?_
    refine JD.load 10 (by kernel_rfl) rfl ⟨_, rfl, (congrArg Value.bool (decide_eq_true (by omega)))⟩ (q_ldf rfl hcz0) ?_
    refine JD.calc 11 (by kernel_rfl) rfl ⟨_, rfl, (congrArg Value.bool (decide_eq_true (by omega)))⟩ ss_sub (q_fa rfl) ?_
    refine JD.load 12 (by kernel_rfl) rfl ⟨_, rfl, (congrArg Value.bool (decide_eq_true (by omega)))⟩ (q_ld rfl inferInstance rfl) ?_
    refine JD.calc 13 (by kernel_rfl) rfl ⟨_, rfl, (congrArg Value.bool (decide_eq_true (by omega)))⟩ ss_sub (q_geq rfl rfl) ?_
    first | refine JD.calc 14 (by kernel_rfl) rfl trivial ss_sub (q_pickTv (v := .bool _) rfl (decide_eq_true (by omega)) rfl) ?_ | refine JD.calc 14 (by kernel_rfl) rfl trivial ss_sub (q_pickT rfl (decide_eq_true (by omega))) ?_
    refine JD.done (by kernel_rfl) ?_ _
    refine J.condF rfl (decide_eq_false (by omega)) ?_
    refine J.skip ?_
    refine J.seq ?_
    refine J.region ?_
    refine o_q (q_fa rfl) ?_
    refine o_q (q_ld rfl inferInstance rfl) ?_
    refine o_q (q_add (c := rows + 1) rfl rfl (wi64 (by omega))) ?_
    refine o_q (q_fa rfl) ?_
    refine o_q (q_ld rfl inferInstance rfl) ?_
    first | refine o_q (q_bd [.int _ _, .int _ _, .slice _ _ _] rfl) ?_ | refine o_q (q_bd [_, _, _] rfl) ?_
    refine o_al (fun b8 => ?_)
    refine o_stw (vs := [_, _, _]) rfl rfl rfl inferInstance rfl rfl ?_
    refine JL.nil ?_
    -- cut: kept [1, 2, 3, 6, 8], said []
    first | refine J.cutK (α := List Value × Option Addr × Nat × Own) (fun ⟨ys, pL, cL, Lb⟩ h' L' => OwnS 26 1 (.slice pL i cL) i ys Lb ∧ Cells (One RowAt) 1 h' ys (L.take i) ∧ List.Sublist (Lb ++ [(b8, row 24 [.int .i64 (rows + 1), .int .i64 cols, .slice pL i cL]), (b6, row 24 [.int .i64 0, .int .i64 0, .slice none 0 0]), (b3, row 24 [.int .i64 rows, .int .i64 cols, .slice p L.length c])]) L') [(1, .int _ _), (2, .slice _ _ _), (3, .pointer _), (6, .pointer _), (8, .pointer _)] ⟨rfl, rfl, rfl, rfl, rfl, trivial⟩ (fun _ => []) ?_ ?_ | refine J.cutK (α := List Value × Option Addr × Nat × Own) (fun ⟨ys, pL, cL, Lb⟩ h' L' => OwnS 26 1 (.slice pL i cL) i ys Lb ∧ Cells (One RowAt) 1 h' ys (L.take i) ∧ List.Sublist (Lb ++ [(b8, row 24 [.int .i64 (rows + 1), .int .i64 cols, .slice pL i cL]), (b6, row 24 [.int .i64 0, .int .i64 0, .slice none 0 0]), (b3, row 24 [.int .i64 rows, .int .i64 cols, .slice p L.length c])]) L') [(1, _), (2, _), (3, _), (6, _), (8, _)] ⟨rfl, rfl, rfl, rfl, rfl, trivial⟩ (fun _ => []) ?_ ?_
    ·
      refine J.seq ?_
      refine J.region ?_
      refine o_q (q_as) ?_
      refine JL.nil ?_
      refine J.block ?_
      -- loop 0: kept [1, 2, 3, 6, 8], said [9]
      first | refine J.loopK (α := Nat × List Value × Option Addr × Nat × Own) (fun ⟨k, ys, pL, cL, Lb⟩ h' L' => 0 ≤ k ∧ k ≤ i ∧ OwnS 26 1 (.slice pL k cL) k ys Lb ∧ Cells (One RowAt) 1 h' ys (L.take k) ∧ List.Sublist (Lb ++ [(b8, row 24 [.int .i64 (rows + 1), .int .i64 cols, .slice pL k cL]), (b6, row 24 [.int .i64 0, .int .i64 0, .slice none 0 0]), (b3, row 24 [.int .i64 rows, .int .i64 cols, .slice p L.length c])]) L') [(1, .int _ _), (2, .slice _ _ _), (3, .pointer _), (6, .pointer _), (8, .pointer _)] ⟨rfl, rfl, rfl, rfl, rfl, trivial⟩ (fun ⟨k, ys, pL, cL, Lb⟩ => [(9, .int .i64 (k : Int))]) (fun x => L.length - x.1) ((0, [], none, 0, [])) ⟨by omega, by omega, OwnS.nil _ _, Cells.nil, List.Sublist.refl _⟩ ⟨rfl, trivial⟩ ?_ | refine J.loopK (α := Nat × List Value × Option Addr × Nat × Own) (fun ⟨k, ys, pL, cL, Lb⟩ h' L' => 0 ≤ k ∧ k ≤ i ∧ OwnS 26 1 (.slice pL k cL) k ys Lb ∧ Cells (One RowAt) 1 h' ys (L.take k) ∧ List.Sublist (Lb ++ [(b8, row 24 [.int .i64 (rows + 1), .int .i64 cols, .slice pL k cL]), (b6, row 24 [.int .i64 0, .int .i64 0, .slice none 0 0]), (b3, row 24 [.int .i64 rows, .int .i64 cols, .slice p L.length c])]) L') [(1, _), (2, _), (3, _), (6, _), (8, _)] ⟨rfl, rfl, rfl, rfl, rfl, trivial⟩ (fun ⟨k, ys, pL, cL, Lb⟩ => [(9, .int .i64 (k : Int))]) (fun x => L.length - x.1) ((0, [], none, 0, [])) ⟨by omega, by omega, OwnS.nil _ _, Cells.nil, List.Sublist.refl _⟩ ⟨rfl, trivial⟩ ?_
      rintro ⟨k, ys, pL, cL, Lb⟩ σ h1 L1 s1 ⟨hik, hk, ho, hcs, hsub⟩
      refine J.sub hsub ?_
      refine J.seq ?_
      refine J.seq ?_
      refine J.region ?_
      first | refine o_q (q_mvv (v := .int _ _) rfl) ?_ | refine o_q (q_mv) ?_
      first | refine o_q (q_mvv (v := .int _ _) rfl) ?_ | refine o_q (q_mv) ?_
      refine o_q (q_lss rfl rfl) ?_
      refine JL.nil ?_
      refine J.condD rfl (fun c1 => ?_) (fun c1 => ?_)
      ·
        obtain ⟨r, hr⟩ := lt_get (show k < L.length by omega)
        obtain ⟨kx, ox, qx, mx, nx, rfl, hcx, hrx⟩ := Sls.row hL hr
        refine J.skip ?_
        refine J.seq ?_
        refine J.block ?_
        refine J.draw ([(b8, row 24 [.int .i64 (rows + 1), .int .i64 cols, .slice pL k cL]), (b3, row 24 [.int .i64 rows, .int .i64 cols, .slice (some ⟨kx, ox, none⟩) L.length c])]) [10] ?_
        refine JD.calc 0 (by kernel_rfl) rfl trivial ss_sub (q_fa rfl) ?_
        refine JD.load 1 (by kernel_rfl) rfl trivial (q_ld rfl inferInstance rfl) ?_
        refine JD.calc 2 (by kernel_rfl) rfl trivial ss_sub (q_fa rfl) ?_
        refine JD.load 3 (by kernel_rfl) rfl trivial (q_ld rfl inferInstance rfl) ?_
        first | refine JD.calc 4 (by kernel_rfl) rfl trivial ss_sub (q_mvv (v := .int _ _) rfl) ?_ | refine JD.calc 4 (by kernel_rfl) rfl trivial ss_sub (q_mv) ?_
        refine JD.calc 5 (by kernel_rfl) rfl trivial ss_sub (q_ia rfl rfl (by omega)) ?_
        refine JD.load 6 (by kernel_rfl) rfl trivial (q_ldf rfl hcx) ?_
        refine JD.one 7 (by kernel_rfl) ?_
        refine JX.eff rfl rfl trivial ?_
        first | refine o_bs [.slice _ _ _] (by decide) rfl (fun b54 => ?_) | refine o_bs [_] (by decide) rfl (fun b54 => ?_)
        refine JL.nil ⟨rfl, inferInstance, inferInstance, ?_⟩
        refine JD.one 8 (by kernel_rfl) ?_
        refine JX.eff rfl rfl trivial ?_
        refine o_app (m := 1) rfl rfl ho inferInstance (src_own inferInstance (LookN.all _) rfl (by simp [plain])) (by omega) (fun v40 L40 ho40 => ?_)
        obtain ⟨p40, c40, rfl⟩ := ho40.out
        refine JL.nil ⟨rfl, inferInstance, inferInstance, ?_⟩
        refine JD.calc 9 (by kernel_rfl) rfl trivial ss_sub (q_fa rfl) ?_
        refine JD.one 10 (by kernel_rfl) ?_
        refine JX.mut rfl rfl trivial ?_
        first | refine o_st1 (v := .slice _ _ _) rfl rfl rfl inferInstance (by first | decide | simp) ?_ | refine o_st1 rfl rfl rfl inferInstance (by first | decide | simp) ?_
        refine JL.nil ⟨rfl, ?_⟩
        refine JD.done (by kernel_rfl) ?_ _
        refine J.region ?_
        first | refine o_q (q_mvv (v := .int _ _) rfl) ?_ | refine o_q (q_mv) ?_
        refine o_q (q_add (c := ((k + 1 : Nat) : Int)) rfl rfl (by rw [wi64 (by omega)]; omega)) ?_
        first | refine o_q (q_asv (v := .int _ _) rfl) ?_ | refine o_q (q_as) ?_
        refine JL.nil ?_
        exact ⟨(k + 1, _, p40, c40, L40), rfl, ⟨rfl, rfl, rfl, rfl, rfl, trivial⟩, ⟨rfl, trivial⟩, ⟨by omega, by omega, ho40, (by rw [List.take_add_one, hr]; exact hcs.mono.snoc rfl ⟨_, _, _, rfl, hrx.mono⟩), (by repeat' first | exact List.Sublist.refl _ | apply List.Sublist.cons_cons | apply List.Sublist.append (List.Sublist.refl _) | apply List.Sublist.cons | exact List.nil_sublist _)⟩, by show L.length - (k + 1) < L.length - k; omega, inferInstance⟩
      ·
        refine J.exit ?_
        obtain rfl : k = i := by omega
        exact ⟨(ys, pL, cL, Lb), rfl, ⟨rfl, rfl, rfl, rfl, rfl, trivial⟩, trivial, ⟨ho, hcs, (by repeat' first | exact List.Sublist.refl _ | apply List.Sublist.cons_cons | apply List.Sublist.append (List.Sublist.refl _) | apply List.Sublist.cons | exact List.nil_sublist _)⟩, inferInstance⟩
    ·
      rintro ⟨ys, pL, cL, Lb⟩ σ5 h5 L5 s5 ⟨ho, hcs, hsub⟩
      refine J.sub hsub ?_
      refine J.seq ?_
      refine J.region ?_
      refine o_q (q_fa rfl) ?_
      refine o_q (q_ld rfl inferInstance rfl) ?_
      first | refine o_q (q_mvv (v := .slice _ _ _) rfl) ?_ | refine o_q (q_mv) ?_
      first | refine o_bs [.slice _ _ _] (by decide) rfl (fun b60 => ?_) | refine o_bs [_] (by decide) rfl (fun b60 => ?_)
      refine o_app (m := 1) rfl rfl ho inferInstance (src_own inferInstance (LookN.all _) rfl (by simp [plain])) (by omega) (fun v61 L61 ho61 => ?_)
      obtain ⟨p61, c61, rfl⟩ := ho61.out
      refine o_q (q_fa rfl) ?_
      first | refine o_st1 (v := .slice _ _ _) rfl rfl rfl inferInstance (by first | decide | simp) ?_ | refine o_st1 rfl rfl rfl inferInstance (by first | decide | simp) ?_
      refine JL.nil ?_
      -- cut: kept [6, 8], said []
      first | refine J.cutK (α := List Value × Option Addr × Nat × Own) (fun ⟨ys, pL, cL, Lb⟩ h' L' => OwnS 26 1 (.slice pL (L.length + 1) cL) (L.length + 1) ys Lb ∧ Cells (One RowAt) 1 h' ys (L.take i ++ [l] ++ L.drop i) ∧ List.Sublist (Lb ++ [(b8, row 24 [.int .i64 (rows + 1), .int .i64 cols, .slice pL (L.length + 1) cL]), (b6, row 24 [.int .i64 0, .int .i64 0, .slice none 0 0])]) L') [(6, .pointer _), (8, .pointer _)] ⟨rfl, rfl, trivial⟩ (fun _ => []) ?_ ?_ | refine J.cutK (α := List Value × Option Addr × Nat × Own) (fun ⟨ys, pL, cL, Lb⟩ h' L' => OwnS 26 1 (.slice pL (L.length + 1) cL) (L.length + 1) ys Lb ∧ Cells (One RowAt) 1 h' ys (L.take i ++ [l] ++ L.drop i) ∧ List.Sublist (Lb ++ [(b8, row 24 [.int .i64 (rows + 1), .int .i64 cols, .slice pL (L.length + 1) cL]), (b6, row 24 [.int .i64 0, .int .i64 0, .slice none 0 0])]) L') [(6, _), (8, _)] ⟨rfl, rfl, trivial⟩ (fun _ => []) ?_ ?_
      ·
        refine J.seq ?_
        refine J.drop ?_
        have hcs10 := hcs.mono.snoc rfl (show One RowAt h5 [_] l from ⟨_, _, _, rfl, hl.mono⟩)
        refine J.region ?_
        first | refine o_q (q_mvv (v := .int _ _) rfl) ?_ | refine o_q (q_mv) ?_
        first | refine o_q (q_asv (v := .int _ _) rfl) ?_ | refine o_q (q_as) ?_
        refine JL.nil ?_
        refine J.block ?_
        -- loop 1: kept [3, 6, 8], said [10]
        first | refine J.loopK (α := Nat × List Value × Option Addr × Nat × Own) (fun ⟨k, ys, pL, cL, Lb⟩ h' L' => i ≤ k ∧ k ≤ L.length ∧ OwnS 26 1 (.slice pL (k + 1) cL) (k + 1) ys Lb ∧ Cells (One RowAt) 1 h' ys (L.take i ++ [l] ++ (L.drop i).take (k - i)) ∧ List.Sublist (Lb ++ [(b8, row 24 [.int .i64 (rows + 1), .int .i64 cols, .slice pL (k + 1) cL]), (b6, row 24 [.int .i64 0, .int .i64 0, .slice none 0 0]), (b3, row 24 [.int .i64 rows, .int .i64 cols, .slice p L.length c])]) L') [(3, .pointer _), (6, .pointer _), (8, .pointer _)] ⟨rfl, rfl, rfl, trivial⟩ (fun ⟨k, ys, pL, cL, Lb⟩ => [(10, .int .i64 (k : Int))]) (fun x => L.length - x.1) ((i, _, p61, c61, L61)) ⟨by omega, by omega, (by simpa using ho61), (by simpa using hcs10), List.Sublist.refl _⟩ ⟨rfl, trivial⟩ ?_ | refine J.loopK (α := Nat × List Value × Option Addr × Nat × Own) (fun ⟨k, ys, pL, cL, Lb⟩ h' L' => i ≤ k ∧ k ≤ L.length ∧ OwnS 26 1 (.slice pL (k + 1) cL) (k + 1) ys Lb ∧ Cells (One RowAt) 1 h' ys (L.take i ++ [l] ++ (L.drop i).take (k - i)) ∧ List.Sublist (Lb ++ [(b8, row 24 [.int .i64 (rows + 1), .int .i64 cols, .slice pL (k + 1) cL]), (b6, row 24 [.int .i64 0, .int .i64 0, .slice none 0 0]), (b3, row 24 [.int .i64 rows, .int .i64 cols, .slice p L.length c])]) L') [(3, _), (6, _), (8, _)] ⟨rfl, rfl, rfl, trivial⟩ (fun ⟨k, ys, pL, cL, Lb⟩ => [(10, .int .i64 (k : Int))]) (fun x => L.length - x.1) ((i, _, p61, c61, L61)) ⟨by omega, by omega, (by simpa using ho61), (by simpa using hcs10), List.Sublist.refl _⟩ ⟨rfl, trivial⟩ ?_
        rintro ⟨k, ys, pL, cL, Lb⟩ σb h1b L1b s1b ⟨hik, hk, ho, hcs, hsub⟩
        refine J.sub hsub ?_
        refine J.seq ?_
        refine J.seq ?_
        refine J.region ?_
        first | refine o_q (q_mvv (v := .int _ _) rfl) ?_ | refine o_q (q_mv) ?_
        refine o_q (q_fa rfl) ?_
        refine o_q (q_ld rfl inferInstance rfl) ?_
        refine o_q (q_lss rfl rfl) ?_
        refine JL.nil ?_
        refine J.condD rfl (fun c3 => ?_) (fun c3 => ?_)
        ·
          obtain ⟨r, hr⟩ := lt_get (show k < L.length by omega)
          obtain ⟨kx, ox, qx, mx, nx, rfl, hcx, hrx⟩ := Sls.row hL hr
          refine J.skip ?_
          refine J.seq ?_
          refine J.block ?_
          refine J.draw ([(b8, row 24 [.int .i64 (rows + 1), .int .i64 cols, .slice pL (k + 1) cL]), (b3, row 24 [.int .i64 rows, .int .i64 cols, .slice (some ⟨kx, ox, none⟩) L.length c])]) [10] ?_
          refine JD.calc 0 (by kernel_rfl) rfl trivial ss_sub (q_fa rfl) ?_
          refine JD.load 1 (by kernel_rfl) rfl trivial (q_ld rfl inferInstance rfl) ?_
          refine JD.calc 2 (by kernel_rfl) rfl trivial ss_sub (q_fa rfl) ?_
          refine JD.load 3 (by kernel_rfl) rfl trivial (q_ld rfl inferInstance rfl) ?_
          first | refine JD.calc 4 (by kernel_rfl) rfl trivial ss_sub (q_mvv (v := .int _ _) rfl) ?_ | refine JD.calc 4 (by kernel_rfl) rfl trivial ss_sub (q_mv) ?_
          refine JD.calc 5 (by kernel_rfl) rfl trivial ss_sub (q_ia rfl rfl (by omega)) ?_
          refine JD.load 6 (by kernel_rfl) rfl trivial (q_ldf rfl hcx) ?_
          refine JD.one 7 (by kernel_rfl) ?_
          refine JX.eff rfl rfl trivial ?_
          first | refine o_bs [.slice _ _ _] (by decide) rfl (fun b77 => ?_) | refine o_bs [_] (by decide) rfl (fun b77 => ?_)
          refine JL.nil ⟨rfl, inferInstance, inferInstance, ?_⟩
          refine JD.one 8 (by kernel_rfl) ?_
          refine JX.eff rfl rfl trivial ?_
          refine o_app (m := 1) rfl rfl ho inferInstance (src_own inferInstance (LookN.all _) rfl (by simp [plain])) (by omega) (fun v78 L78 ho78 => ?_)
          obtain ⟨p78, c78, rfl⟩ := ho78.out
          refine JL.nil ⟨rfl, inferInstance, inferInstance, ?_⟩
          refine JD.calc 9 (by kernel_rfl) rfl trivial ss_sub (q_fa rfl) ?_
          refine JD.one 10 (by kernel_rfl) ?_
          refine JX.mut rfl rfl trivial ?_
          first | refine o_st1 (v := .slice _ _ _) rfl rfl rfl inferInstance (by first | decide | simp) ?_ | refine o_st1 rfl rfl rfl inferInstance (by first | decide | simp) ?_
          refine JL.nil ⟨rfl, ?_⟩
          refine JD.done (by kernel_rfl) ?_ _
          refine J.region ?_
          first | refine o_q (q_mvv (v := .int _ _) rfl) ?_ | refine o_q (q_mv) ?_
          refine o_q (q_add (c := ((k + 1 : Nat) : Int)) rfl rfl (by rw [wi64 (by omega)]; omega)) ?_
          first | refine o_q (q_asv (v := .int _ _) rfl) ?_ | refine o_q (q_as) ?_
          refine JL.nil ?_
          exact ⟨(k + 1, _, p78, c78, L78), rfl, ⟨rfl, rfl, rfl, trivial⟩, ⟨rfl, trivial⟩, ⟨by omega, by omega, ho78, (by rw [ins_step hik hr]; exact hcs.mono.snoc rfl ⟨_, _, _, rfl, hrx.mono⟩), (by repeat' first | exact List.Sublist.refl _ | apply List.Sublist.cons_cons | apply List.Sublist.append (List.Sublist.refl _) | apply List.Sublist.cons | exact List.nil_sublist _)⟩, by show L.length - (k + 1) < L.length - k; omega, inferInstance⟩
        ·
          refine J.exit ?_
          obtain rfl : k = L.length := by omega
          rw [List.take_of_length_le (l := L.drop i) (by rw [List.length_drop]; omega)] at hcs
          exact ⟨(ys, pL, cL, Lb), rfl, ⟨rfl, rfl, trivial⟩, trivial, ⟨ho, hcs, (by repeat' first | exact List.Sublist.refl _ | apply List.Sublist.cons_cons | apply List.Sublist.append (List.Sublist.refl _) | apply List.Sublist.cons | exact List.nil_sublist _)⟩, inferInstance⟩
      ·
        rintro ⟨ys, pL, cL, Lb⟩ σ9 h9 L9 s9 ⟨ho, hcs, hsub⟩
        refine J.sub hsub ?_
        refine J.seq ?_
        refine J.fzS ho (fun h11 s11 hs11 => ?_)
        refine J.region ?_
        refine o_q (q_lda (vs := [_, _, _]) rfl inferInstance ⟨rfl, rfl, rfl, trivial⟩) ?_
        refine o_stw (vs := [_, _, _]) rfl rfl rfl inferInstance rfl rfl ?_
        refine o_q (q_as) ?_
        refine JL.nil ?_
        refine J.ret ?_
        have hel : (L.take i ++ [l] ++ L.drop i).length = L.length + 1 := by
          simp only [List.length_append, List.length_take, List.length_drop, List.length_singleton]; omega
        exact ret_ok (fn := Try.f24) rfl (.agg rfl inferInstance inferInstance (.tmp rfl .nil)) ⟨_, rfl, pL, cL, (by rw [hel] <;> rfl), by rw [hel]; exact Sls.of hs11 hcs.mono hel.symm⟩
end Go.Z
