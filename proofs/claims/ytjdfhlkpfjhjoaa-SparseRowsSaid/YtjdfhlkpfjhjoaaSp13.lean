/- Remove of the sparse matrices, walked. -/
import Derived.Test.YtjdfhlkpfjhjoaaSp12
import Derived.Test.YtjdfhlkpfjhjoaaR4
set_option linter.unusedSimpArgs false
set_option linter.unusedVariables false
namespace Go.Z
open Go Go.RowKit Go.Proofs
theorem cut1_all {α : Type} {i : Nat} {L : List α} (h : i < L.length) : cut1 i L.length L = L.take i ++ L.drop (i + 1) := by
  unfold cut1
  rw [Nat.min_eq_left (Nat.le_of_lt h), List.take_length]
set_option maxHeartbeats 4000000 in
theorem remove_ok {h : Heap} {v : Value} {rows cols : Int} {i : Nat} {L : List (List RT)} (hv : SparseAt h v rows cols L) (hrows : rows = L.length) (hN : L.length ≤ 1000000) (hi : i < L.length) :
    Fn Try.prog 25 #[v, .int .i64 (i : Int)] h fun r h' => ∃ v2, r = .tuple ⟨[v2, .int .i64 0]⟩ ∧ SparseAt h' v2 (rows - 1) cols (cut1 i L.length L) := by
  obtain ⟨p, c, rfl, hL⟩ := hv
  obtain ⟨_, _, e0, hLc⟩ := hL.out
  cases e0
  obtain ⟨cs, hs, hcs⟩ := hL
  refine Fn.intro (args := [_, _]) Try.func25 rfl rfl (Nat.le_of_ble_eq_true rfl) fun w => ?_
  refine J.seq ?_
  refine J.region ?_
  first | refine o_bx (v := .agg _) rfl rfl (fun b2 => ?_) | refine o_bx rfl rfl (fun b2 => ?_)
  refine o_al (fun b4 => ?_)
  refine o_q (q_as) ?_
  refine JL.nil ?_
  refine J.seq ?_
  refine J.seq ?_
  refine J.region ?_
  first | refine o_q (q_mvv (v := .int _ _) rfl) ?_ | refine o_q (q_mv) ?_
  refine o_q (q_lss rfl rfl) ?_
  first | refine o_q (q_mvv (v := .bool _) rfl) ?_ | refine o_q (q_mv) ?_
  refine JL.guardT rfl rfl (decide_eq_false (by omega)) ?_
  first | refine o_q (q_mvv (v := .int _ _) rfl) ?_ | refine o_q (q_mv) ?_
  refine JL.guardT rfl rfl (decide_eq_false (by omega)) ?_
  refine o_q (q_fa rfl) ?_
  refine JL.guardT rfl rfl (decide_eq_false (by omega)) ?_
  refine o_q (q_ld rfl inferInstance rfl) ?_
  refine JL.guardT rfl rfl (decide_eq_false (by omega)) ?_
  refine o_q (q_geq rfl rfl) ?_
  first | refine o_q (q_pickFv (v := .bool _) rfl (decide_eq_false (by omega)) rfl) ?_ | refine o_q (q_pickF rfl (decide_eq_false (by omega))) ?_
  refine JL.nil ?_
  refine J.condF rfl (decide_eq_false (by omega)) ?_
  refine J.skip ?_
  refine J.seq ?_
  refine J.region ?_
  refine o_q (q_fa rfl) ?_
  refine o_q (q_ld rfl inferInstance rfl) ?_
  refine o_q (q_sub (c := rows - 1) rfl rfl (wi64 (by omega))) ?_
  refine o_q (q_fa rfl) ?_
  first | refine o_st1 (v := .int _ _) rfl rfl rfl inferInstance (by first | decide | simp) ?_ | refine o_st1 rfl rfl rfl inferInstance (by first | decide | simp) ?_
  refine JL.nil ?_
  refine J.seq ?_
  refine J.sub (L' := [(b4, row 24 [.int .i64 0, .int .i64 0, .slice none 0 0]), (b2, row 24 [.int .i64 (rows - 1), .int .i64 cols, .slice p L.length c])]) (by repeat' first | exact List.Sublist.refl _ | apply List.Sublist.cons_cons | apply List.Sublist.cons) ?_
  refine J.draw ([(b2, row 24 [.int .i64 (rows - 1), .int .i64 cols, .slice p L.length c])]) [12] ?_
  refine JD.calc 0 (by kernel_rfl) rfl trivial ss_sub (q_fa rfl) ?_
  refine JD.load 1 (by kernel_rfl) rfl trivial (q_ld rfl inferInstance rfl) ?_
  first | refine JD.calc 2 (by kernel_rfl) rfl trivial ss_sub (q_mvv (v := .int _ _) rfl) ?_ | refine JD.calc 2 (by kernel_rfl) rfl trivial ss_sub (q_mv) ?_
  first | refine JD.calc 3 (by kernel_rfl) rfl trivial ss_sub (q_mvv (v := .int _ _) rfl) ?_ | refine JD.calc 3 (by kernel_rfl) rfl trivial ss_sub (q_mv) ?_
  refine JD.calc 4 (by kernel_rfl) rfl trivial ss_sub (q_slHM rfl rfl rfl (by omega)) ?_
  refine JD.calc 5 (by kernel_rfl) rfl trivial ss_sub (q_fa rfl) ?_
  refine JD.load 6 (by kernel_rfl) rfl trivial (q_ld rfl inferInstance rfl) ?_
  first | refine JD.calc 7 (by kernel_rfl) rfl trivial ss_sub (q_mvv (v := .int _ _) rfl) ?_ | refine JD.calc 7 (by kernel_rfl) rfl trivial ss_sub (q_mv) ?_
  refine JD.calc 8 (by kernel_rfl) rfl trivial ss_sub (q_add (c := ((i + 1 : Nat) : Int)) rfl rfl (by rw [wi64 (by omega)]; omega)) ?_
  refine JD.calc 9 (by kernel_rfl) rfl trivial ss_sub (q_slL rfl rfl (by omega)) ?_
  refine JD.one 10 (by kernel_rfl) ?_
  refine JX.eff rfl rfl trivial ?_
  have hd := hs.drop (k := i + 1) (by omega)
  have ht := hs.take (k := i) (m := i) (by omega) (Nat.le_refl _)
  have hpl : ∀ u ∈ cs.drop ((i + 1) * 1), plain u = true := fun u hu => (by
    obtain ⟨j, hj⟩ := List.mem_iff_getElem?.1 (List.mem_of_mem_drop hu)
    obtain ⟨r, hr⟩ := lt_get (show j < L.length by have := (List.getElem?_eq_some_iff.1 hj).1; have := hcs.1; omega)
    obtain ⟨q, n2, k2, e2, _⟩ := hcs.2 j r hr
    have h3 := congrArg (fun t : List Value => t[0]?) e2
    simp only [List.getElem?_take, List.getElem?_drop] at h3
    have h4 : cs[j]? = some (.slice q n2 k2) := by simpa using h3
    rw [h4] at hj; cases hj; rfl)
  refine o_appF rfl rfl ht (src_fro hd hpl) (by show i + (L.length - (i + 1)) ≤ _; omega) (fun v29 h29 s29 hs29 => ?_)
  have hc2 := (hcs.take (k := i) (by omega)).append (hcs.drop (i + 1))
  rw [← cut1_all hi] at hc2
  have hsl : RowsAt h29 v29 (cut1 i L.length L) := Sls.of hs29 hc2.mono (by rw [cut1_all hi, List.length_append, List.length_take, List.length_drop]; show i + (L.length - (i + 1)) = _; omega)
  obtain ⟨p29, c29, rfl, hc29⟩ := hsl.out
  refine JL.nil ⟨rfl, inferInstance, inferInstance, ?_⟩
  refine JD.calc 11 (by kernel_rfl) rfl trivial ss_sub (q_fa rfl) ?_
  refine JD.one 12 (by kernel_rfl) ?_
  refine JX.mut rfl rfl trivial ?_
  first | refine o_st1 (v := .slice _ _ _) rfl rfl rfl inferInstance (by first | decide | simp) ?_ | refine o_st1 rfl rfl rfl inferInstance (by first | decide | simp) ?_
  refine JL.nil ⟨rfl, ?_⟩
  refine JD.done (by kernel_rfl) ?_ _
  refine J.seq ?_
  refine J.region ?_
  refine o_q (q_lda (vs := [_, _, _]) rfl inferInstance ⟨rfl, rfl, rfl, trivial⟩) ?_
  refine o_stw (vs := [_, _, _]) rfl rfl rfl inferInstance rfl rfl ?_
  refine o_q (q_as) ?_
  refine JL.nil ?_
  refine J.ret ?_
  exact ret_ok (fn := Try.f25) rfl (.agg rfl inferInstance inferInstance (.tmp rfl .nil)) ⟨_, rfl, _, _, rfl, hsl⟩
end Go.Z
