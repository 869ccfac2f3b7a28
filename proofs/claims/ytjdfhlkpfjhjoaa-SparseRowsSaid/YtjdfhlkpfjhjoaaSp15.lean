/- Insert of the sparse matrices, walked. -/
import Derived.Test.YtjdfhlkpfjhjoaaSp14
import Derived.Test.YtjdfhlkpfjhjoaaLits
set_option linter.unusedSimpArgs false
set_option linter.unusedVariables false
namespace Go.Z
open Go Go.RowKit Go.Proofs
theorem Sls.take {α : Type} {R : Heap → List Value → α → Prop} {sz : Nat} {h : Heap} {p : Option Addr} {n c k : Nat} {l : List α} (s : Sls R sz h (.slice p n c) l) (hk : k ≤ l.length) : Sls R sz h (.slice p k k) (l.take k) := by
  obtain ⟨cs, h1, h2⟩ := s
  have hn : n = l.length := by obtain ⟨p', c', e, _⟩ := h1; cases e; rfl
  subst hn
  exact Sls.of (h1.take hk (Nat.le_refl k)) (h2.take hk) (by rw [List.length_take, Nat.min_eq_left hk])
set_option maxHeartbeats 4000000 in
theorem insert_ok {h : Heap} {v : Value} {rows cols : Int} {i : Nat} {L : List (List RT)} (hv : SparseAt h v rows cols L) (hrows : rows = L.length) (hN : L.length ≤ 1000000) {vl : Value} {l : List RT} (hl : RowAt h vl l) (hi : i ≤ L.length) (hll : l.length ≤ 1000000) (hlc : l = [] ∨ ∃ t, l[l.length - 1]? = some t ∧ t.1 < cols) :
    Fn Try.prog 23 #[v, .int .i64 (i : Int), vl] h fun r h' => ∃ v2, r = .tuple ⟨[v2, .int .i64 0]⟩ ∧ SparseAt h' v2 (rows + 1) cols (L.take i ++ [l] ++ L.drop i) := by
  obtain ⟨p, c, rfl, hL⟩ := hv
  obtain ⟨_, _, e0, hLc⟩ := hL.out
  cases e0
  obtain ⟨pl, cl, rfl, hcl⟩ := hl.out
  refine Fn.intro (args := [_, _, _]) Try.func23 rfl rfl (Nat.le_of_ble_eq_true rfl) fun w => ?_
  refine J.seq ?_
  refine J.region ?_
  first | refine o_bx (v := .agg _) rfl rfl (fun b3 => ?_) | refine o_bx rfl rfl (fun b3 => ?_)
  refine o_al (fun b6 => ?_)
  refine o_q (q_as) ?_
  refine JL.nil ?_
  refine J.seq ?_
  refine J.block ?_
  refine J.seq ?_
  refine J.region ?_
  first | refine o_q (q_mvv (v := .int _ _) rfl) ?_ | refine o_q (q_mv) ?_
  refine o_q (q_lss rfl rfl) ?_
  first | refine o_q (q_mvv (v := .bool _) rfl) ?_ | refine o_q (q_mv) ?_
  refine JL.guardT rfl rfl (decide_eq_false (by omega)) ?_
  first | refine o_q (q_mvv (v := .int _ _) rfl) ?_ | refine o_q (q_mv) ?_
  refine JL.guardT rfl rfl (decide_eq_false (by omega)) ?_
  refine o_q (q_fa rfl) ?_
  refine JL.guardT rfl rfl (decide_eq_false (by omega)) ?_
  refine o_q (q_ld rfl inferInstance rfl) ?_
  refine JL.guardT rfl rfl (decide_eq_false (by omega)) ?_
  refine o_q (q_gtr rfl rfl) ?_
  first | refine o_q (q_pickFv (v := .bool _) rfl (decide_eq_false (by omega)) rfl) ?_ | refine o_q (q_pickF rfl (decide_eq_false (by omega))) ?_
  first | refine o_q (q_asv (v := .bool _) rfl) ?_ | refine o_q (q_as) ?_
  refine JL.nil ?_
  refine J.condF rfl (decide_eq_false (by omega)) ?_
  refine J.seq ?_
  rcases hlc with q1 | ⟨t, ht, q1⟩
  ·
    have hl0 : l.length = 0 := by rw [q1]; rfl
    refine J.drawA [] ?_
    first | refine JD.calc 0 (by kernel_rfl) rfl trivial ss_sub (q_mvv (v := .slice _ _ _) rfl) ?_ | refine JD.calc 0 (by kernel_rfl) rfl trivial ss_sub (q_mv) ?_
    refine JD.calc 1 (by kernel_rfl) rfl trivial ss_sub (q_len rfl) ?_
    refine JD.calc 2 (by kernel_rfl) rfl trivial ss_sub (q_gtr rfl rfl) ?_
    first | refine JD.calc 3 (by kernel_rfl) rfl trivial ss_sub (q_mvv (v := .bool _) rfl) ?_ | refine JD.calc 3 (by kernel_rfl) rfl trivial ss_sub (q_mv) ?_
    refine JD.pass 4 (by kernel_rfl) rfl rfl (congrArg Value.bool (decide_eq_false (by omega))) ss_sub ?_
    refine JD.pass 5 (by kernel_rfl) rfl rfl (congrArg Value.bool (decide_eq_false (by omega))) ss_sub ?_
    refine JD.pass 6 (by kernel_rfl) rfl rfl (congrArg Value.bool (decide_eq_false (by omega))) ss_sub ?_
    refine JD.pass 7 (by kernel_rfl) rfl rfl (congrArg Value.bool (decide_eq_false (by omega))) ss_sub ?_
    refine JD.pass 8 (by kernel_rfl) rfl rfl (congrArg Value.bool (decide_eq_false (by omega))) ss_sub ?_
    refine JD.pass 9 (by kernel_rfl) rfl rfl (congrArg Value.bool (decide_eq_false (by omega))) ss_sub ?_
    refine JD.pass 10 (by kernel_rfl) rfl rfl (congrArg Value.bool (decide_eq_false (by omega))) ss_sub ?_
    refine JD.pass 11 (by kernel_rfl) rfl rfl (congrArg Value.bool (decide_eq_false (by omega))) ss_sub ?_
    refine JD.pass 12 (by kernel_rfl) rfl rfl (congrArg Value.bool (decide_eq_false (by omega))) ss_sub ?_
    refine JD.pass 13 (by kernel_rfl) rfl rfl (congrArg Value.bool (decide_eq_false (by omega))) ss_sub ?_
    refine JD.calc 14 (by kernel_rfl) rfl trivial ss_sub (q_pickF rfl (decide_eq_false (by omega))) ?_
    first | refine JD.calc 15 (by kernel_rfl) rfl trivial ss_sub (q_asv (v := .bool _) rfl) ?_ | refine JD.calc 15 (by kernel_rfl) rfl trivial ss_sub (q_as) ?_
    refine JD.done (by kernel_rfl) ?_ _
    refine J.condF rfl rfl ?_
    refine J.skip ?_
    refine J.seq ?_
    refine J.region ?_
    refine o_q (q_fa rfl) ?_
    refine o_q (q_ld rfl inferInstance rfl) ?_
    refine o_q (q_add (c := rows + 1) rfl rfl (wi64 (by omega))) ?_
    refine o_q (q_fa rfl) ?_
    first | refine o_st1 (v := .int _ _) rfl rfl rfl inferInstance (by first | decide | simp) ?_ | refine o_st1 rfl rfl rfl inferInstance (by first | decide | simp) ?_
    refine JL.nil ?_
    refine J.seq ?_
    refine J.sub (L' := [(b6, row 24 [.int .i64 0, .int .i64 0, .slice none 0 0]), (b3, row 24 [.int .i64 (rows + 1), .int .i64 cols, .slice p L.length c])]) (by repeat' first | exact List.Sublist.refl _ | apply List.Sublist.cons_cons | apply List.Sublist.cons) ?_
    refine J.draw ([(b3, row 24 [.int .i64 (rows + 1), .int .i64 cols, .slice p L.length c])]) [14] ?_
    refine JD.calc 0 (by kernel_rfl) rfl trivial ss_sub (q_fa rfl) ?_
    refine JD.load 1 (by kernel_rfl) rfl trivial (q_ld rfl inferInstance rfl) ?_
    first | refine JD.calc 2 (by kernel_rfl) rfl trivial ss_sub (q_mvv (v := .int _ _) rfl) ?_ | refine JD.calc 2 (by kernel_rfl) rfl trivial ss_sub (q_mv) ?_
    first | refine JD.calc 3 (by kernel_rfl) rfl trivial ss_sub (q_mvv (v := .int _ _) rfl) ?_ | refine JD.calc 3 (by kernel_rfl) rfl trivial ss_sub (q_mv) ?_
    refine JD.calc 4 (by kernel_rfl) rfl trivial ss_sub (q_slHM rfl rfl rfl (by omega)) ?_
    first | refine JD.calc 5 (by kernel_rfl) rfl trivial ss_sub (q_mvv (v := .slice _ _ _) rfl) ?_ | refine JD.calc 5 (by kernel_rfl) rfl trivial ss_sub (q_mv) ?_
    refine JD.calc 7 (by kernel_rfl) rfl trivial ss_sub (q_fa rfl) ?_
    refine JD.load 8 (by kernel_rfl) rfl trivial (q_ld rfl inferInstance rfl) ?_
    first | refine JD.calc 9 (by kernel_rfl) rfl trivial ss_sub (q_mvv (v := .int _ _) rfl) ?_ | refine JD.calc 9 (by kernel_rfl) rfl trivial ss_sub (q_mv) ?_
    refine JD.calc 10 (by kernel_rfl) rfl trivial ss_sub (q_slL rfl rfl (by omega)) ?_
    refine JD.one 6 (by kernel_rfl) ?_
    refine JX.eff rfl rfl trivial ?_
    refine o_bs [.slice _ _ _] (by decide) rfl (fun b45 => ?_)
    refine JL.fz b45 (fun hh45 ss45 hb45 => ?_)
    have r1 : RowsAt hh45 (.slice (some ⟨b45, 0, none⟩) 1 1) [l] := Sls.lit 1 hb45 (Cells.one (R := One RowAt) ⟨_, _, _, rfl, hl.mono⟩ rfl) rfl
    refine JL.nil ⟨rfl, inferInstance, inferInstance, ?_⟩
    refine JD.one 11 (by kernel_rfl) ?_
    refine JX.eff rfl rfl trivial ?_
    refine o_bs [.slice _ _ _, .slice _ _ _, .slice _ _ _] (by decide) rfl (fun b50 => ?_)
    refine JL.fz b50 (fun hh50 ss50 hb50 => ?_)
    have ra := (hL.take hi).mono (h' := hh50)
    have rb := (hL.drop hi).mono (h' := hh50)
    have r3 : Sls (One RowsAt) 1 hh50 (.slice (some ⟨b50, 0, none⟩) 3 3) [L.take i, [l], L.drop i] := Sls.lit 3 hb50 ((Cells.two (R := One RowsAt) ⟨_, _, _, rfl, ra⟩ ⟨_, _, _, rfl, r1.mono⟩ rfl rfl rfl).snoc rfl ⟨_, _, _, rfl, rb⟩) rfl
    refine JL.nil ⟨rfl, inferInstance, inferInstance, ?_⟩
    refine JD.one 12 (by kernel_rfl) ?_
    refine JX.eff rfl rfl trivial ?_
    have hnz : nz [L.take i, [l], L.drop i] = L.length + 1 := by simp [nz]; omega
    refine o_call (concat_fn r3 (by simp) (fun r hr => by simp at hr; rcases hr with rfl | rfl | rfl <;> simp <;> omega) (by omega)) (fun v51 h51 s51 r51 => ?_)
    obtain ⟨p51, c51, rfl, hc51⟩ := r51.out
    refine JL.nil ⟨rfl, inferInstance, inferInstance, ?_⟩
    refine JD.calc 13 (by kernel_rfl) rfl trivial ss_sub (q_fa rfl) ?_
    refine JD.one 14 (by kernel_rfl) ?_
    refine JX.mut rfl rfl trivial ?_
    first | refine o_st1 (v := .slice _ _ _) rfl rfl rfl inferInstance (by first | decide | simp) ?_ | refine o_st1 rfl rfl rfl inferInstance (by first | decide | simp) ?_
    refine JL.nil ⟨rfl, ?_⟩
    refine JD.done (by kernel_rfl) ?_ _
    refine J.seq ?_
    refine J.region ?_
    refine o_q (q_lda (vs := [_, _, _]) rfl inferInstance ⟨rfl, rfl, rfl, trivial⟩) ?_
    refine o_stw (vs := [_, _, _]) rfl rfl rfl inferInstance rfl rfl ?_
    refine o_q (q_as) ?_
    refine JL.nil ?_
    refine J.ret ?_
    have hfl : [L.take i, [l], L.drop i].flatten = L.take i ++ [l] ++ L.drop i := by simp
    rw [hfl] at r51 hc51
    exact ret_ok (fn := Try.f23) rfl (.agg rfl inferInstance inferInstance (.tmp rfl .nil)) ⟨_, rfl, p51, c51, (by rw [← hfl] <;> rfl), r51⟩
  ·
    have hl0 := (List.getElem?_eq_some_iff.1 ht).1
    obtain ⟨kw, ow, qw, nw, rfl, hcw0, hcw1, hcw, hnw, hmw⟩ := Sls.term hl ht
    refine J.drawA [] ?_
    first | refine JD.calc 0 (by kernel_rfl) rfl trivial ss_sub (q_mvv (v := .slice _ _ _) rfl) ?_ | refine JD.calc 0 (by kernel_rfl) rfl trivial ss_sub (q_mv) ?_
    refine JD.calc 1 (by kernel_rfl) rfl trivial ss_sub (q_len rfl) ?_
    refine JD.calc 2 (by kernel_rfl) rfl trivial ss_sub (q_gtr rfl rfl) ?_
    first | refine JD.calc 3 (by kernel_rfl) rfl trivial ss_sub (q_mvv (v := .bool _) rfl) ?_ | refine JD.calc 3 (by kernel_rfl) rfl trivial ss_sub (q_mv) ?_
    first | refine JD.calc 4 (by kernel_rfl) rfl ⟨_, rfl, (congrArg Value.bool (decide_eq_true (by omega)))⟩ ss_sub (q_mvv (v := .slice _ _ _) rfl) ?_ | refine JD.calc 4 (by kernel_rfl) rfl ⟨_, rfl, (congrArg Value.bool (decide_eq_true (by omega)))⟩ ss_sub (q_mv) ?_
    first | refine JD.calc 5 (by kernel_rfl) rfl ⟨_, rfl, (congrArg Value.bool (decide_eq_true (by omega)))⟩ ss_sub (q_mvv (v := .slice _ _ _) rfl) ?_ | refine JD.calc 5 (by kernel_rfl) rfl ⟨_, rfl, (congrArg Value.bool (decide_eq_true (by omega)))⟩ ss_sub (q_mv) ?_
    refine JD.calc 6 (by kernel_rfl) rfl ⟨_, rfl, (congrArg Value.bool (decide_eq_true (by omega)))⟩ ss_sub (q_len rfl) ?_
    refine JD.calc 7 (by kernel_rfl) rfl ⟨_, rfl, (congrArg Value.bool (decide_eq_true (by omega)))⟩ ss_sub (q_sub (c := ((l.length - 1 : Nat) : Int)) rfl rfl (by rw [wi64 (by omega)]; omega)) ?_
    refine JD.calc 8 (by kernel_rfl) rfl ⟨_, rfl, (congrArg Value.bool (decide_eq_true (by omega)))⟩ ss_sub (q_ia rfl rfl (by omega)) ?_
    refine JD.calc 9 (by kernel_rfl) rfl ⟨_, rfl, (congrArg Value.bool (decide_eq_true (by omega)))⟩ ss_sub (q_fa rfl) ?_
    refine JD.load 10 (by kernel_rfl) rfl ⟨_, rfl, (congrArg Value.bool (decide_eq_true (by omega)))⟩ (q_ldf rfl hcw0) ?_
    refine JD.calc 11 (by kernel_rfl) rfl ⟨_, rfl, (congrArg Value.bool (decide_eq_true (by omega)))⟩ ss_sub (q_fa rfl) ?_
    refine JD.load 12 (by kernel_rfl) rfl ⟨_, rfl, (congrArg Value.bool (decide_eq_true (by omega)))⟩ (q_ld rfl inferInstance rfl) ?_
    refine JD.calc 13 (by kernel_rfl) rfl ⟨_, rfl, (congrArg Value.bool (decide_eq_true (by omega)))⟩ ss_sub (q_geq rfl rfl) ?_
    first | refine JD.calc 14 (by kernel_rfl) rfl trivial ss_sub (q_pickTv (v := .bool _) rfl (decide_eq_true (by omega)) rfl) ?_ | refine JD.calc 14 (by kernel_rfl) rfl trivial ss_sub (q_pickT rfl (decide_eq_true (by omega))) ?_
    first | refine JD.calc 15 (by kernel_rfl) rfl trivial ss_sub (q_asv (v := .bool _) rfl) ?_ | refine JD.calc 15 (by kernel_rfl) rfl trivial ss_sub (q_as) ?_
    refine JD.done (by kernel_rfl) ?_ _
    refine J.condF rfl (decide_eq_false (by omega)) ?_
    refine J.skip ?_
    refine J.seq ?_
    refine J.region ?_
    refine o_q (q_fa rfl) ?_
    refine o_q (q_ld rfl inferInstance rfl) ?_
    refine o_q (q_add (c := rows + 1) rfl rfl (wi64 (by omega))) ?_
    refine o_q (q_fa rfl) ?_
    first | refine o_st1 (v := .int _ _) rfl rfl rfl inferInstance (by first | decide | simp) ?_ | refine o_st1 rfl rfl rfl inferInstance (by first | decide | simp) ?_
    refine JL.nil ?_
    refine J.seq ?_
    refine J.sub (L' := [(b6, row 24 [.int .i64 0, .int .i64 0, .slice none 0 0]), (b3, row 24 [.int .i64 (rows + 1), .int .i64 cols, .slice p L.length c])]) (by repeat' first | exact List.Sublist.refl _ | apply List.Sublist.cons_cons | apply List.Sublist.cons) ?_
    refine J.draw ([(b3, row 24 [.int .i64 (rows + 1), .int .i64 cols, .slice p L.length c])]) [14] ?_
    refine JD.calc 0 (by kernel_rfl) rfl trivial ss_sub (q_fa rfl) ?_
    refine JD.load 1 (by kernel_rfl) rfl trivial (q_ld rfl inferInstance rfl) ?_
    first | refine JD.calc 2 (by kernel_rfl) rfl trivial ss_sub (q_mvv (v := .int _ _) rfl) ?_ | refine JD.calc 2 (by kernel_rfl) rfl trivial ss_sub (q_mv) ?_
    first | refine JD.calc 3 (by kernel_rfl) rfl trivial ss_sub (q_mvv (v := .int _ _) rfl) ?_ | refine JD.calc 3 (by kernel_rfl) rfl trivial ss_sub (q_mv) ?_
    refine JD.calc 4 (by kernel_rfl) rfl trivial ss_sub (q_slHM rfl rfl rfl (by omega)) ?_
    first | refine JD.calc 5 (by kernel_rfl) rfl trivial ss_sub (q_mvv (v := .slice _ _ _) rfl) ?_ | refine JD.calc 5 (by kernel_rfl) rfl trivial ss_sub (q_mv) ?_
    refine JD.calc 7 (by kernel_rfl) rfl trivial ss_sub (q_fa rfl) ?_
    refine JD.load 8 (by kernel_rfl) rfl trivial (q_ld rfl inferInstance rfl) ?_
    first | refine JD.calc 9 (by kernel_rfl) rfl trivial ss_sub (q_mvv (v := .int _ _) rfl) ?_ | refine JD.calc 9 (by kernel_rfl) rfl trivial ss_sub (q_mv) ?_
    refine JD.calc 10 (by kernel_rfl) rfl trivial ss_sub (q_slL rfl rfl (by omega)) ?_
    refine JD.one 6 (by kernel_rfl) ?_
    refine JX.eff rfl rfl trivial ?_
    refine o_bs [.slice _ _ _] (by decide) rfl (fun b45 => ?_)
    refine JL.fz b45 (fun hh45 ss45 hb45 => ?_)
    have r1 : RowsAt hh45 (.slice (some ⟨b45, 0, none⟩) 1 1) [l] := Sls.lit 1 hb45 (Cells.one (R := One RowAt) ⟨_, _, _, rfl, hl.mono⟩ rfl) rfl
    refine JL.nil ⟨rfl, inferInstance, inferInstance, ?_⟩
    refine JD.one 11 (by kernel_rfl) ?_
    refine JX.eff rfl rfl trivial ?_
    refine o_bs [.slice _ _ _, .slice _ _ _, .slice _ _ _] (by decide) rfl (fun b50 => ?_)
    refine JL.fz b50 (fun hh50 ss50 hb50 => ?_)
    have ra := (hL.take hi).mono (h' := hh50)
    have rb := (hL.drop hi).mono (h' := hh50)
    have r3 : Sls (One RowsAt) 1 hh50 (.slice (some ⟨b50, 0, none⟩) 3 3) [L.take i, [l], L.drop i] := Sls.lit 3 hb50 ((Cells.two (R := One RowsAt) ⟨_, _, _, rfl, ra⟩ ⟨_, _, _, rfl, r1.mono⟩ rfl rfl rfl).snoc rfl ⟨_, _, _, rfl, rb⟩) rfl
    refine JL.nil ⟨rfl, inferInstance, inferInstance, ?_⟩
    refine JD.one 12 (by kernel_rfl) ?_
    refine JX.eff rfl rfl trivial ?_
    have hnz : nz [L.take i, [l], L.drop i] = L.length + 1 := by simp [nz]; omega
    refine o_call (concat_fn r3 (by simp) (fun r hr => by simp at hr; rcases hr with rfl | rfl | rfl <;> simp <;> omega) (by omega)) (fun v51 h51 s51 r51 => ?_)
    obtain ⟨p51, c51, rfl, hc51⟩ := r51.out
    refine JL.nil ⟨rfl, inferInstance, inferInstance, ?_⟩
    refine JD.calc 13 (by kernel_rfl) rfl trivial ss_sub (q_fa rfl) ?_
    refine JD.one 14 (by kernel_rfl) ?_
    refine JX.mut rfl rfl trivial ?_
    first | refine o_st1 (v := .slice _ _ _) rfl rfl rfl inferInstance (by first | decide | simp) ?_ | refine o_st1 rfl rfl rfl inferInstance (by first | decide | simp) ?_
    refine JL.nil ⟨rfl, ?_⟩
    refine JD.done (by kernel_rfl) ?_ _
    refine J.seq ?_
    refine J.region ?_
    refine o_q (q_lda (vs := [_, _, _]) rfl inferInstance ⟨rfl, rfl, rfl, trivial⟩) ?_
    refine o_stw (vs := [_, _, _]) rfl rfl rfl inferInstance rfl rfl ?_
    refine o_q (q_as) ?_
    refine JL.nil ?_
    refine J.ret ?_
    have hfl : [L.take i, [l], L.drop i].flatten = L.take i ++ [l] ++ L.drop i := by simp
    rw [hfl] at r51 hc51
    exact ret_ok (fn := Try.f23) rfl (.agg rfl inferInstance inferInstance (.tmp rfl .nil)) ⟨_, rfl, p51, c51, (by rw [← hfl] <;> rfl), r51⟩
end Go.Z
