/- The reference's Merge, walked. -/
import Derived.Test.YtjdfhlkpfjhjoaaSp9
set_option linter.unusedSimpArgs false
set_option linter.unusedVariables false
namespace Go.Z
open Go Go.RowKit Go.Proofs
theorem four (i j la lb : Nat) (hi : i ≤ la) (hj : j ≤ lb) : (i = la ∧ j = lb) ∨ (i < la ∧ j = lb) ∨ (i = la ∧ j < lb) ∨ (i < la ∧ j < lb) := by omega
theorem drop_end {α : Type} {l : List α} {i : Nat} (h : i = l.length) : l.drop i = [] := by subst h; exact List.drop_length
set_option maxHeartbeats 8000000 in
theorem merger_fn {h : Heap} {va vb vk : Value} {a b : List (Int × Int)} {k : Int} (ha : RowAt h va (cr a)) (hb : RowAt h vb (cr b)) (hk : IntAt h vk k) (hla : a.length ≤ 1000000) (hlb : b.length ≤ 1000000) (hba : ∀ t ∈ a, t.2.natAbs < 2147483648) (hbb : ∀ t ∈ b, t.2.natAbs < 2147483648) (hkk : k.natAbs < 2147483648) :
    Fn Try.prog 18 #[va, vb, vk] h fun r h' => RowAt h' r (cr (mergeL k a b)) := by
  obtain ⟨pa, ca, rfl, hca⟩ := ha.out
  obtain ⟨pb, cb, rfl, hcb⟩ := hb.out
  obtain ⟨pk, ck, rfl, hck, hkm⟩ := hk.out
  have el : (cr a).length = a.length := List.length_map ..
  have em : (cr b).length = b.length := List.length_map ..
  rw [el] at ha hca ⊢
  rw [em] at hb hcb ⊢
  refine Fn.intro (args := [_, _, _]) Try.func18 rfl rfl (Nat.le_of_ble_eq_true rfl) fun w => ?_
  refine J.seq ?_
  refine J.region ?_
  first | refine o_bx (v := .agg _) rfl rfl (fun b5 => ?_) | refine o_bx rfl rfl (fun b5 => ?_)
  refine o_q (q_as) ?_
  refine JL.nil ?_
  refine J.seq ?_
  refine J.region ?_
  refine o_bs [] (by decide) rfl (fun b11 => ?_)
  first | refine o_q (q_asv (v := .slice _ _ _) rfl) ?_ | refine o_q (q_as) ?_
  refine JL.nil ?_
  refine J.seq ?_
  refine J.region ?_
  refine o_q (q_as) ?_
  refine JL.nil ?_
  refine J.seq ?_
  refine J.region ?_
  refine o_q (q_as) ?_
  refine JL.nil ?_
  -- cut: kept [], said [7]
  first | refine J.cutK (α := List Value × Option Addr × Nat × Own) (fun ⟨xs, pv, cv, Lb⟩ h' L' => OwnS 71 3 (.slice pv (mergeL k a b).length cv) (mergeL k a b).length xs Lb ∧ Cells TermR 3 h' xs (cr (mergeL k a b)) ∧ List.Sublist (Lb ++ [(b5, row 37 [.bool (decide (k < 0)), .slice pk (limbs k.natAbs).length ck])]) L') [] trivial (fun ⟨xs, pv, cv, Lb⟩ => [(7, .slice pv (mergeL k a b).length cv)]) ?_ ?_ | refine J.cutK (α := List Value × Option Addr × Nat × Own) (fun ⟨xs, pv, cv, Lb⟩ h' L' => OwnS 71 3 (.slice pv (mergeL k a b).length cv) (mergeL k a b).length xs Lb ∧ Cells TermR 3 h' xs (cr (mergeL k a b)) ∧ List.Sublist (Lb ++ [(b5, row 37 [.bool (decide (k < 0)), .slice pk (limbs k.natAbs).length ck])]) L') [] trivial (fun ⟨xs, pv, cv, Lb⟩ => [(7, .slice pv (mergeL k a b).length cv)]) ?_ ?_
  ·
    refine J.block ?_
    -- loop 0: kept [0, 1, 5], said [7, 8, 9]
    first | refine J.loopK (α := Nat × Nat × List (Int × Int) × List Value × Option Addr × Nat × Own) (fun ⟨i, j, done, xs, pv, cv, Lb⟩ h' L' => i ≤ a.length ∧ j ≤ b.length ∧ OwnS 71 3 (.slice pv done.length cv) done.length xs Lb ∧ Cells TermR 3 h' xs (cr done) ∧ mergeL k a b = done ++ mergeL k (a.drop i) (b.drop j) ∧ done.length ≤ i + j ∧ List.Sublist (Lb ++ [(b5, row 37 [.bool (decide (k < 0)), .slice pk (limbs k.natAbs).length ck])]) L') [(0, .slice _ _ _), (1, .slice _ _ _), (5, .pointer _)] ⟨rfl, rfl, rfl, trivial⟩ (fun ⟨i, j, done, xs, pv, cv, Lb⟩ => [(7, .slice pv done.length cv), (8, .int .i64 (i : Int)), (9, .int .i64 (j : Int))]) (fun x => a.length + b.length - (x.1 + x.2.1)) ((0, 0, [], [], some ⟨b11, 0, none⟩, 0, [(b11, row 71 [])])) ⟨by omega, by omega, OwnS.lit (xs := []) (n := 0) rfl, Cells.nil, rfl, by simp, List.Sublist.refl _⟩ ⟨rfl, rfl, rfl, trivial⟩ ?_ | refine J.loopK (α := Nat × Nat × List (Int × Int) × List Value × Option Addr × Nat × Own) (fun ⟨i, j, done, xs, pv, cv, Lb⟩ h' L' => i ≤ a.length ∧ j ≤ b.length ∧ OwnS 71 3 (.slice pv done.length cv) done.length xs Lb ∧ Cells TermR 3 h' xs (cr done) ∧ mergeL k a b = done ++ mergeL k (a.drop i) (b.drop j) ∧ done.length ≤ i + j ∧ List.Sublist (Lb ++ [(b5, row 37 [.bool (decide (k < 0)), .slice pk (limbs k.natAbs).length ck])]) L') [(0, _), (1, _), (5, _)] ⟨rfl, rfl, rfl, trivial⟩ (fun ⟨i, j, done, xs, pv, cv, Lb⟩ => [(7, .slice pv done.length cv), (8, .int .i64 (i : Int)), (9, .int .i64 (j : Int))]) (fun x => a.length + b.length - (x.1 + x.2.1)) ((0, 0, [], [], some ⟨b11, 0, none⟩, 0, [(b11, row 71 [])])) ⟨by omega, by omega, OwnS.lit (xs := []) (n := 0) rfl, Cells.nil, rfl, by simp, List.Sublist.refl _⟩ ⟨rfl, rfl, rfl, trivial⟩ ?_
    rintro ⟨i, j, done, xs, pv, cv, Lb⟩ σ h1 L1 s1 ⟨hi, hj, ho, hcs, hmg, hdl, hsub⟩
    refine J.sub hsub ?_
    refine J.seq ?_
    refine J.seq ?_
    rcases four i j a.length b.length hi hj with c0 | ⟨c1, c2⟩ | ⟨c1, c2⟩ | ⟨c1, c2⟩
    ·
      refine J.region ?_
      first | refine o_q (q_mvv (v := .int _ _) rfl) ?_ | refine o_q (q_mv) ?_
      first | refine o_q (q_mvv (v := .slice _ _ _) rfl) ?_ | refine o_q (q_mv) ?_
      refine o_q (q_len rfl) ?_
      refine o_q (q_lss rfl rfl) ?_
      first | refine o_q (q_mvv (v := .bool _) rfl) ?_ | refine o_q (q_mv) ?_
      refine JL.guardT rfl rfl (decide_eq_false (by omega)) ?_
      first | refine o_q (q_mvv (v := .int _ _) rfl) ?_ | refine o_q (q_mv) ?_
      refine JL.guardT rfl rfl (decide_eq_false (by omega)) ?_
      first | refine o_q (q_mvv (v := .slice _ _ _) rfl) ?_ | refine o_q (q_mv) ?_
      refine JL.guardT rfl rfl (decide_eq_false (by omega)) ?_
      refine o_q (q_len rfl) ?_
      refine JL.guardT rfl rfl (decide_eq_false (by omega)) ?_
      refine o_q (q_lss rfl rfl) ?_
      first | refine o_q (q_pickFv (v := .bool _) rfl (decide_eq_false (by omega)) rfl) ?_ | refine o_q (q_pickF rfl (decide_eq_false (by omega))) ?_
      refine JL.nil ?_
      refine J.condF rfl (decide_eq_false (by omega)) ?_
      refine J.exit ?_
      have hfin : mergeL k a b = done := by rw [hmg, drop_end c0.1, drop_end c0.2, mergeL, List.append_nil]
      exact ⟨(xs, pv, cv, Lb), rfl, trivial, ⟨(by rw [hfin] <;> rfl), trivial⟩, ⟨(by rw [hfin]; exact ho), (by rw [hfin]; exact hcs), List.Sublist.refl _⟩, inferInstance⟩
    ·
      obtain ⟨t, ht⟩ := lt_get c1
      obtain ⟨kx, ox, qx, nx, rfl, hcx0, hcx1, hcx, hnx, hmx⟩ := Sls.term ha (map_get (f := tm) ht)
      have fa := hba t (List.mem_of_getElem? ht)
      have hmz : MagAt h (.slice qx (limbs t.2.natAbs).length nx) (limbs t.2.natAbs) := hmx
      have hnz2 : (limbs t.2.natAbs).length ≤ nx := hnx
      have fz : t.2.natAbs < 9223372036854775807 := by omega
      have hstep : mergeL k (a.drop i) (b.drop j) = keep (t.1, t.2) ++ mergeL k (a.drop (i + 1)) (b.drop j) := by
        rw [drop_get ht, drop_end c2, mergeL_an]; simp
      refine J.region ?_
      first | refine o_q (q_mvv (v := .int _ _) rfl) ?_ | refine o_q (q_mv) ?_
      first | refine o_q (q_mvv (v := .slice _ _ _) rfl) ?_ | refine o_q (q_mv) ?_
      refine o_q (q_len rfl) ?_
      refine o_q (q_lss rfl rfl) ?_
      first | refine o_q (q_mvv (v := .bool _) rfl) ?_ | refine o_q (q_mv) ?_
      refine JL.guardF rfl rfl (decide_eq_true (by omega)) rfl ?_
      refine JL.guardF rfl rfl (decide_eq_true (by omega)) rfl ?_
      refine JL.guardF rfl rfl (decide_eq_true (by omega)) rfl ?_
      refine JL.guardF rfl rfl (decide_eq_true (by omega)) rfl ?_
      refine o_q (q_pickT rfl (decide_eq_true (by omega))) ?_
      refine JL.nil ?_
      refine J.condT rfl rfl ?_
      refine J.skip ?_
      refine J.block ?_
      refine J.seq ?_
      refine J.region ?_
      first | refine o_q (q_bd [.int _ _, .bool _, .slice _ _ _] rfl) ?_ | refine o_q (q_bd [_, _, _] rfl) ?_
      refine o_al (fun b10 => ?_)
      refine o_stw (vs := [_, _, _]) rfl rfl rfl inferInstance rfl rfl ?_
      refine JL.nil ?_
      refine J.seq ?_
      refine J.block ?_
      refine J.seq ?_
      refine J.drawA [] ?_
      first | refine JD.calc 0 (by kernel_rfl) rfl trivial ss_sub (q_mvv (v := .int _ _) rfl) ?_ | refine JD.calc 0 (by kernel_rfl) rfl trivial ss_sub (q_mv) ?_
      first | refine JD.calc 1 (by kernel_rfl) rfl trivial ss_sub (q_mvv (v := .slice _ _ _) rfl) ?_ | refine JD.calc 1 (by kernel_rfl) rfl trivial ss_sub (q_mv) ?_
      refine JD.calc 2 (by kernel_rfl) rfl trivial ss_sub (q_len rfl) ?_
      refine JD.calc 3 (by kernel_rfl) rfl trivial ss_sub (q_eql rfl rfl) ?_
      first | refine JD.calc 4 (by kernel_rfl) rfl trivial ss_sub (q_mvv (v := .bool _) rfl) ?_ | refine JD.calc 4 (by kernel_rfl) rfl trivial ss_sub (q_mv) ?_
      refine JD.pass 5 (by kernel_rfl) rfl rfl (congrArg Value.bool (decide_eq_true (by omega))) ss_sub ?_
      refine JD.pass 6 (by kernel_rfl) rfl rfl (congrArg Value.bool (decide_eq_true (by omega))) ss_sub ?_
      refine JD.pass 7 (by kernel_rfl) rfl rfl (congrArg Value.bool (decide_eq_true (by omega))) ss_sub ?_
      refine JD.pass 8 (by kernel_rfl) rfl rfl (congrArg Value.bool (decide_eq_true (by omega))) ss_sub ?_
      refine JD.pass 9 (by kernel_rfl) rfl rfl (congrArg Value.bool (decide_eq_true (by omega))) ss_sub ?_
      refine JD.passU 10 (by kernel_rfl) rfl rfl rfl ss_sub ?_
      refine JD.passU 11 (by kernel_rfl) rfl rfl rfl ss_sub ?_
      refine JD.passU 12 (by kernel_rfl) rfl rfl rfl ss_sub ?_
      refine JD.passU 13 (by kernel_rfl) rfl rfl rfl ss_sub ?_
      refine JD.passU 14 (by kernel_rfl) rfl rfl rfl ss_sub ?_
      refine JD.passU 15 (by kernel_rfl) rfl rfl rfl ss_sub ?_
      refine JD.passU 16 (by kernel_rfl) rfl rfl rfl ss_sub ?_
      refine JD.passU 17 (by kernel_rfl) rfl rfl rfl ss_sub ?_
      refine JD.passU 18 (by kernel_rfl) rfl rfl rfl ss_sub ?_
      refine JD.passU 19 (by kernel_rfl) rfl rfl rfl ss_sub ?_
      refine JD.passU 20 (by kernel_rfl) rfl rfl rfl ss_sub ?_
      refine JD.pass 21 (by kernel_rfl) rfl rfl (congrArg Value.bool (decide_eq_true (by omega))) ss_sub ?_
      refine JD.calc 22 (by kernel_rfl) rfl trivial ss_sub (q_pickT rfl (decide_eq_true (by omega))) ?_
      first | refine JD.calc 23 (by kernel_rfl) rfl trivial ss_sub (q_asv (v := .bool _) rfl) ?_ | refine JD.calc 23 (by kernel_rfl) rfl trivial ss_sub (q_as) ?_
      refine JD.done (by kernel_rfl) ?_ _
      refine J.condT rfl rfl ?_
      refine J.seq ?_
      refine J.region ?_
      first | refine o_q (q_mvv (v := .slice _ _ _) rfl) ?_ | refine o_q (q_mv) ?_
      first | refine o_q (q_mvv (v := .int _ _) rfl) ?_ | refine o_q (q_mv) ?_
      refine o_q (q_ia rfl rfl (by omega)) ?_
      refine o_q (q_ldfa rfl hcx) ?_
      refine o_stw (vs := [_, _, _]) rfl rfl rfl inferInstance rfl rfl ?_
      refine JL.nil ?_
      refine J.region ?_
      first | refine o_q (q_mvv (v := .int _ _) rfl) ?_ | refine o_q (q_mv) ?_
      refine o_q (q_add (c := ((i + 1 : Nat) : Int)) rfl rfl (by rw [wi64 (by omega)]; omega)) ?_
      first | refine o_q (q_asv (v := .int _ _) rfl) ?_ | refine o_q (q_as) ?_
      refine JL.nil ?_
      refine J.seq ?_
      refine J.region ?_
      refine o_q (q_fa rfl) ?_
      refine o_q (q_lda (vs := [_, _]) rfl inferInstance ⟨rfl, rfl, trivial⟩) ?_
      refine o_call (signr_fn ⟨_, rfl, hmz.mono⟩ (Nat.le_trans (fit64 (z := t.2) (by omega)) (by decide))) (fun v24 h24 s24 e24 => ?_)
      subst e24
      refine o_q (q_neq rfl rfl) ?_
      refine JL.nil ?_
      refine J.condD rfl (fun c9 => ?_) (fun c9 => ?_)
      ·
        have hnz := fun e => c9 ((sgn_zero (t.2)).2 e)
        refine J.region ?_
        first | refine o_q (q_mvv (v := .slice _ _ _) rfl) ?_ | refine o_q (q_mv) ?_
        refine o_q (q_lda (vs := [_, _, _]) rfl inferInstance ⟨rfl, rfl, rfl, trivial⟩) ?_
        first | refine o_bs [.int _ _, .bool _, .slice _ _ _] (by decide) rfl (fun b115 => ?_) | refine o_bs [_, _, _] (by decide) rfl (fun b115 => ?_)
        refine o_app (m := 1) rfl rfl ho inferInstance (src_own inferInstance (LookN.all _) rfl (by simp [plain])) (by omega) (fun v29 L29 ho29 => ?_)
        obtain ⟨p29, c29, rfl⟩ := ho29.out
        first | refine o_q (q_asv (v := .slice _ _ _) rfl) ?_ | refine o_q (q_as) ?_
        refine JL.nil ?_
        first
          | exact ⟨(i + 1, j, done ++ [(t.1, t.2)], _, p29, c29, L29), rfl, ⟨rfl, rfl, rfl, trivial⟩, ⟨(by rw [List.length_append] <;> rfl), rfl, rfl, trivial⟩, ⟨by omega, by omega, (by rw [List.length_append]; exact ho29), (by rw [show cr (done ++ [(t.1, t.2)]) = cr done ++ [tm (t.1, t.2)] by simp [cr]]; exact hcs.mono.snoc rfl ⟨_, _, rfl, hnz2, hmz.mono⟩), (by rw [hmg, hstep, keep_pos hnz, List.append_assoc]), (by simp only [List.length_append, List.length_singleton]; omega), (by repeat' first | exact List.Sublist.refl _ | apply List.Sublist.cons_cons | apply List.Sublist.append (List.Sublist.refl _) | apply List.Sublist.cons)⟩, by show a.length + b.length - ((i + 1) + (j)) < a.length + b.length - (i + j); omega, inferInstance⟩
          | exact ⟨(i + 1, j, done, xs, pv, cv, Lb), rfl, ⟨rfl, rfl, rfl, trivial⟩, ⟨rfl, rfl, rfl, trivial⟩, ⟨by omega, by omega, ho, hcs.mono, (by rw [hmg, hstep, keep_zero hnz, List.nil_append]), by omega, (by repeat' first | exact List.Sublist.refl _ | apply List.Sublist.cons_cons | apply List.Sublist.append (List.Sublist.refl _) | apply List.Sublist.cons)⟩, by show a.length + b.length - ((i + 1) + (j)) < a.length + b.length - (i + j); omega, inferInstance⟩
      ·
        have hnz := (sgn_zero (t.2)).1 (Classical.not_not.1 c9)
        refine J.skip ?_
        first
          | exact ⟨(i + 1, j, done ++ [(t.1, t.2)], _, p29, c29, L29), rfl, ⟨rfl, rfl, rfl, trivial⟩, ⟨(by rw [List.length_append] <;> rfl), rfl, rfl, trivial⟩, ⟨by omega, by omega, (by rw [List.length_append]; exact ho29), (by rw [show cr (done ++ [(t.1, t.2)]) = cr done ++ [tm (t.1, t.2)] by simp [cr]]; exact hcs.mono.snoc rfl ⟨_, _, rfl, hnz2, hmz.mono⟩), (by rw [hmg, hstep, keep_pos hnz, List.append_assoc]), (by simp only [List.length_append, List.length_singleton]; omega), (by repeat' first | exact List.Sublist.refl _ | apply List.Sublist.cons_cons | apply List.Sublist.append (List.Sublist.refl _) | apply List.Sublist.cons)⟩, by show a.length + b.length - ((i + 1) + (j)) < a.length + b.length - (i + j); omega, inferInstance⟩
          | exact ⟨(i + 1, j, done, xs, pv, cv, Lb), rfl, ⟨rfl, rfl, rfl, trivial⟩, ⟨rfl, rfl, rfl, trivial⟩, ⟨by omega, by omega, ho, hcs.mono, (by rw [hmg, hstep, keep_zero hnz, List.nil_append]), by omega, (by repeat' first | exact List.Sublist.refl _ | apply List.Sublist.cons_cons | apply List.Sublist.append (List.Sublist.refl _) | apply List.Sublist.cons)⟩, by show a.length + b.length - ((i + 1) + (j)) < a.length + b.length - (i + j); omega, inferInstance⟩
    ·
      obtain ⟨u, hu⟩ := lt_get c2
      obtain ⟨ky, oy, qy, ny, rfl, hcy0, hcy1, hcy, hny, hmy⟩ := Sls.term hb (map_get (f := tm) hu)
      have fb := hbb u (List.mem_of_getElem? hu)
      have hstep : mergeL k (a.drop i) (b.drop j) = keep (u.1, k * u.2) ++ mergeL k (a.drop i) (b.drop (j + 1)) := by
        rw [drop_get hu, drop_end c1, mergeL_nb]; simp
      refine J.region ?_
      first | refine o_q (q_mvv (v := .int _ _) rfl) ?_ | refine o_q (q_mv) ?_
      first | refine o_q (q_mvv (v := .slice _ _ _) rfl) ?_ | refine o_q (q_mv) ?_
      refine o_q (q_len rfl) ?_
      refine o_q (q_lss rfl rfl) ?_
      first | refine o_q (q_mvv (v := .bool _) rfl) ?_ | refine o_q (q_mv) ?_
      refine JL.guardT rfl rfl (decide_eq_false (by omega)) ?_
      first | refine o_q (q_mvv (v := .int _ _) rfl) ?_ | refine o_q (q_mv) ?_
      refine JL.guardT rfl rfl (decide_eq_false (by omega)) ?_
      first | refine o_q (q_mvv (v := .slice _ _ _) rfl) ?_ | refine o_q (q_mv) ?_
      refine JL.guardT rfl rfl (decide_eq_false (by omega)) ?_
      refine o_q (q_len rfl) ?_
      refine JL.guardT rfl rfl (decide_eq_false (by omega)) ?_
      refine o_q (q_lss rfl rfl) ?_
      first | refine o_q (q_pickFv (v := .bool _) rfl (decide_eq_false (by omega)) rfl) ?_ | refine o_q (q_pickF rfl (decide_eq_false (by omega))) ?_
      refine JL.nil ?_
      refine J.condT rfl (decide_eq_true (by omega)) ?_
      refine J.skip ?_
      refine J.block ?_
      refine J.seq ?_
      refine J.region ?_
      first | refine o_q (q_bd [.int _ _, .bool _, .slice _ _ _] rfl) ?_ | refine o_q (q_bd [_, _, _] rfl) ?_
      refine o_al (fun b10 => ?_)
      refine o_stw (vs := [_, _, _]) rfl rfl rfl inferInstance rfl rfl ?_
      refine JL.nil ?_
      refine J.seq ?_
      refine J.block ?_
      refine J.seq ?_
      refine J.drawA [] ?_
      first | refine JD.calc 0 (by kernel_rfl) rfl trivial ss_sub (q_mvv (v := .int _ _) rfl) ?_ | refine JD.calc 0 (by kernel_rfl) rfl trivial ss_sub (q_mv) ?_
      first | refine JD.calc 1 (by kernel_rfl) rfl trivial ss_sub (q_mvv (v := .slice _ _ _) rfl) ?_ | refine JD.calc 1 (by kernel_rfl) rfl trivial ss_sub (q_mv) ?_
      refine JD.calc 2 (by kernel_rfl) rfl trivial ss_sub (q_len rfl) ?_
      refine JD.calc 3 (by kernel_rfl) rfl trivial ss_sub (q_eql rfl rfl) ?_
      first | refine JD.calc 4 (by kernel_rfl) rfl trivial ss_sub (q_mvv (v := .bool _) rfl) ?_ | refine JD.calc 4 (by kernel_rfl) rfl trivial ss_sub (q_mv) ?_
      first | refine JD.calc 5 (by kernel_rfl) rfl ⟨_, rfl, (congrArg Value.bool (decide_eq_false (by omega)))⟩ ss_sub (q_mvv (v := .int _ _) rfl) ?_ | refine JD.calc 5 (by kernel_rfl) rfl ⟨_, rfl, (congrArg Value.bool (decide_eq_false (by omega)))⟩ ss_sub (q_mv) ?_
      first | refine JD.calc 6 (by kernel_rfl) rfl ⟨_, rfl, (congrArg Value.bool (decide_eq_false (by omega)))⟩ ss_sub (q_mvv (v := .slice _ _ _) rfl) ?_ | refine JD.calc 6 (by kernel_rfl) rfl ⟨_, rfl, (congrArg Value.bool (decide_eq_false (by omega)))⟩ ss_sub (q_mv) ?_
      refine JD.calc 7 (by kernel_rfl) rfl ⟨_, rfl, (congrArg Value.bool (decide_eq_false (by omega)))⟩ ss_sub (q_len rfl) ?_
      refine JD.calc 8 (by kernel_rfl) rfl ⟨_, rfl, (congrArg Value.bool (decide_eq_false (by omega)))⟩ ss_sub (q_lss rfl rfl) ?_
      first | refine JD.calc 9 (by kernel_rfl) rfl ⟨_, rfl, (congrArg Value.bool (decide_eq_false (by omega)))⟩ ss_sub (q_mvv (v := .bool _) rfl) ?_ | refine JD.calc 9 (by kernel_rfl) rfl ⟨_, rfl, (congrArg Value.bool (decide_eq_false (by omega)))⟩ ss_sub (q_mv) ?_
      refine JD.pass 10 (by kernel_rfl) rfl rfl (congrArg Value.bool (decide_eq_false (by omega))) ss_sub ?_
      refine JD.pass 11 (by kernel_rfl) rfl rfl (congrArg Value.bool (decide_eq_false (by omega))) ss_sub ?_
      refine JD.pass 12 (by kernel_rfl) rfl rfl (congrArg Value.bool (decide_eq_false (by omega))) ss_sub ?_
      refine JD.pass 13 (by kernel_rfl) rfl rfl (congrArg Value.bool (decide_eq_false (by omega))) ss_sub ?_
      refine JD.pass 14 (by kernel_rfl) rfl rfl (congrArg Value.bool (decide_eq_false (by omega))) ss_sub ?_
      refine JD.pass 15 (by kernel_rfl) rfl rfl (congrArg Value.bool (decide_eq_false (by omega))) ss_sub ?_
      refine JD.pass 16 (by kernel_rfl) rfl rfl (congrArg Value.bool (decide_eq_false (by omega))) ss_sub ?_
      refine JD.pass 17 (by kernel_rfl) rfl rfl (congrArg Value.bool (decide_eq_false (by omega))) ss_sub ?_
      refine JD.pass 18 (by kernel_rfl) rfl rfl (congrArg Value.bool (decide_eq_false (by omega))) ss_sub ?_
      refine JD.pass 19 (by kernel_rfl) rfl rfl (congrArg Value.bool (decide_eq_false (by omega))) ss_sub ?_
      refine JD.pass 20 (by kernel_rfl) rfl rfl (congrArg Value.bool (decide_eq_false (by omega))) ss_sub ?_
      refine JD.calc 21 (by kernel_rfl) rfl ⟨_, rfl, (congrArg Value.bool (decide_eq_false (by omega)))⟩ ss_sub (q_pickF rfl (decide_eq_false (by omega))) ?_
      first | refine JD.calc 22 (by kernel_rfl) rfl trivial ss_sub (q_pickFv (v := .bool _) rfl (decide_eq_false (by omega)) rfl) ?_ | refine JD.calc 22 (by kernel_rfl) rfl trivial ss_sub (q_pickF rfl (decide_eq_false (by omega))) ?_
      first | refine JD.calc 23 (by kernel_rfl) rfl trivial ss_sub (q_asv (v := .bool _) rfl) ?_ | refine JD.calc 23 (by kernel_rfl) rfl trivial ss_sub (q_as) ?_
      refine JD.done (by kernel_rfl) ?_ _
      refine J.condF rfl rfl ?_
      refine J.seq ?_
      refine J.drawA [] ?_
      first | refine JD.calc 0 (by kernel_rfl) rfl trivial ss_sub (q_mvv (v := .int _ _) rfl) ?_ | refine JD.calc 0 (by kernel_rfl) rfl trivial ss_sub (q_mv) ?_
      first | refine JD.calc 1 (by kernel_rfl) rfl trivial ss_sub (q_mvv (v := .slice _ _ _) rfl) ?_ | refine JD.calc 1 (by kernel_rfl) rfl trivial ss_sub (q_mv) ?_
      refine JD.calc 2 (by kernel_rfl) rfl trivial ss_sub (q_len rfl) ?_
      refine JD.calc 3 (by kernel_rfl) rfl trivial ss_sub (q_eql rfl rfl) ?_
      first | refine JD.calc 4 (by kernel_rfl) rfl trivial ss_sub (q_mvv (v := .bool _) rfl) ?_ | refine JD.calc 4 (by kernel_rfl) rfl trivial ss_sub (q_mv) ?_
      refine JD.pass 5 (by kernel_rfl) rfl rfl (congrArg Value.bool (decide_eq_true (by omega))) ss_sub ?_
      refine JD.pass 6 (by kernel_rfl) rfl rfl (congrArg Value.bool (decide_eq_true (by omega))) ss_sub ?_
      refine JD.pass 7 (by kernel_rfl) rfl rfl (congrArg Value.bool (decide_eq_true (by omega))) ss_sub ?_
      refine JD.pass 8 (by kernel_rfl) rfl rfl (congrArg Value.bool (decide_eq_true (by omega))) ss_sub ?_
      refine JD.pass 9 (by kernel_rfl) rfl rfl (congrArg Value.bool (decide_eq_true (by omega))) ss_sub ?_
      refine JD.pass 10 (by kernel_rfl) rfl rfl (congrArg Value.bool (decide_eq_true (by omega))) ss_sub ?_
      refine JD.pass 11 (by kernel_rfl) rfl rfl (congrArg Value.bool (decide_eq_true (by omega))) ss_sub ?_
      refine JD.pass 12 (by kernel_rfl) rfl rfl (congrArg Value.bool (decide_eq_true (by omega))) ss_sub ?_
      refine JD.pass 13 (by kernel_rfl) rfl rfl (congrArg Value.bool (decide_eq_true (by omega))) ss_sub ?_
      refine JD.pass 14 (by kernel_rfl) rfl rfl (congrArg Value.bool (decide_eq_true (by omega))) ss_sub ?_
      refine JD.pass 15 (by kernel_rfl) rfl rfl (congrArg Value.bool (decide_eq_true (by omega))) ss_sub ?_
      refine JD.calc 16 (by kernel_rfl) rfl trivial ss_sub (q_pickT rfl (decide_eq_true (by omega))) ?_
      first | refine JD.calc 17 (by kernel_rfl) rfl trivial ss_sub (q_asv (v := .bool _) rfl) ?_ | refine JD.calc 17 (by kernel_rfl) rfl trivial ss_sub (q_as) ?_
      refine JD.done (by kernel_rfl) ?_ _
      refine J.condT rfl rfl ?_
      refine J.seq ?_
      refine J.drawA [13] ?_
      first | refine JD.calc 0 (by kernel_rfl) rfl trivial ss_sub (q_mvv (v := .slice _ _ _) rfl) ?_ | refine JD.calc 0 (by kernel_rfl) rfl trivial ss_sub (q_mv) ?_
      first | refine JD.calc 1 (by kernel_rfl) rfl trivial ss_sub (q_mvv (v := .int _ _) rfl) ?_ | refine JD.calc 1 (by kernel_rfl) rfl trivial ss_sub (q_mv) ?_
      refine JD.calc 2 (by kernel_rfl) rfl trivial ss_sub (q_ia rfl rfl (by omega)) ?_
      refine JD.calc 3 (by kernel_rfl) rfl trivial ss_sub (q_fa rfl) ?_
      refine JD.load 4 (by kernel_rfl) rfl trivial (q_ldf rfl hcy0) ?_
      refine JD.load 5 (by kernel_rfl) rfl trivial (q_lda (vs := [_, _]) rfl inferInstance ⟨rfl, rfl, trivial⟩) ?_
      first | refine JD.calc 6 (by kernel_rfl) rfl trivial ss_sub (q_mvv (v := .slice _ _ _) rfl) ?_ | refine JD.calc 6 (by kernel_rfl) rfl trivial ss_sub (q_mv) ?_
      first | refine JD.calc 7 (by kernel_rfl) rfl trivial ss_sub (q_mvv (v := .int _ _) rfl) ?_ | refine JD.calc 7 (by kernel_rfl) rfl trivial ss_sub (q_mv) ?_
      refine JD.calc 8 (by kernel_rfl) rfl trivial ss_sub (q_ia rfl rfl (by omega)) ?_
      refine JD.calc 9 (by kernel_rfl) rfl trivial ss_sub (q_fa rfl) ?_
      refine JD.load 10 (by kernel_rfl) rfl trivial (q_ldfa rfl hcy1) ?_
      refine JD.one 11 (by kernel_rfl) ?_
      refine JX.eff rfl rfl trivial ?_
      refine o_call (mulr_fn ⟨_, rfl, hkm.mono⟩ ⟨_, rfl, hmy.mono⟩ (fit64 (by omega)) (fit64 (by omega))) (fun v19 h19 s19 hr19 => ?_)
      have hky := Nat.mul_le_mul (Nat.le_of_lt_succ hkk) (Nat.le_of_lt_succ fb)
      rw [← Int.natAbs_mul] at hky
      obtain ⟨pz, cz, rfl, hnz2, hmz⟩ := hr19.out
      refine JL.nil ⟨rfl, inferInstance, inferInstance, ?_⟩
      first | refine JD.calc 12 (by kernel_rfl) rfl trivial ss_sub (q_bd [.int _ _, .bool _, .slice _ _ _] rfl) ?_ | refine JD.calc 12 (by kernel_rfl) rfl trivial ss_sub (q_bd [_, _, _] rfl) ?_
      refine JD.one 13 (by kernel_rfl) ?_
      refine JX.mut rfl rfl trivial ?_
      refine o_stw (vs := [_, _, _]) rfl rfl rfl inferInstance rfl rfl ?_
      refine JL.nil ⟨rfl, ?_⟩
      refine JD.done (by kernel_rfl) ?_ _
      refine J.region ?_
      first | refine o_q (q_mvv (v := .int _ _) rfl) ?_ | refine o_q (q_mv) ?_
      refine o_q (q_add (c := ((j + 1 : Nat) : Int)) rfl rfl (by rw [wi64 (by omega)]; omega)) ?_
      first | refine o_q (q_asv (v := .int _ _) rfl) ?_ | refine o_q (q_as) ?_
      refine JL.nil ?_
      refine J.seq ?_
      refine J.region ?_
      refine o_q (q_fa rfl) ?_
      refine o_q (q_lda (vs := [_, _]) rfl inferInstance ⟨rfl, rfl, trivial⟩) ?_
      refine o_call (signr_fn ⟨_, rfl, hmz.mono⟩ (Nat.le_trans (fit64 (z := k * u.2) (by omega)) (by decide))) (fun v24 h24 s24 e24 => ?_)
      subst e24
      refine o_q (q_neq rfl rfl) ?_
      refine JL.nil ?_
      refine J.condD rfl (fun c9 => ?_) (fun c9 => ?_)
      ·
        have hnz := fun e => c9 ((sgn_zero (k * u.2)).2 e)
        refine J.region ?_
        first | refine o_q (q_mvv (v := .slice _ _ _) rfl) ?_ | refine o_q (q_mv) ?_
        refine o_q (q_lda (vs := [_, _, _]) rfl inferInstance ⟨rfl, rfl, rfl, trivial⟩) ?_
        first | refine o_bs [.int _ _, .bool _, .slice _ _ _] (by decide) rfl (fun b115 => ?_) | refine o_bs [_, _, _] (by decide) rfl (fun b115 => ?_)
        refine o_app (m := 1) rfl rfl ho inferInstance (src_own inferInstance (LookN.all _) rfl (by simp [plain])) (by omega) (fun v29 L29 ho29 => ?_)
        obtain ⟨p29, c29, rfl⟩ := ho29.out
        first | refine o_q (q_asv (v := .slice _ _ _) rfl) ?_ | refine o_q (q_as) ?_
        refine JL.nil ?_
        first
          | exact ⟨(i, j + 1, done ++ [(u.1, k * u.2)], _, p29, c29, L29), rfl, ⟨rfl, rfl, rfl, trivial⟩, ⟨(by rw [List.length_append] <;> rfl), rfl, rfl, trivial⟩, ⟨by omega, by omega, (by rw [List.length_append]; exact ho29), (by rw [show cr (done ++ [(u.1, k * u.2)]) = cr done ++ [tm (u.1, k * u.2)] by simp [cr]]; exact hcs.mono.snoc rfl ⟨_, _, rfl, hnz2, hmz.mono⟩), (by rw [hmg, hstep, keep_pos hnz, List.append_assoc]), (by simp only [List.length_append, List.length_singleton]; omega), (by repeat' first | exact List.Sublist.refl _ | apply List.Sublist.cons_cons | apply List.Sublist.append (List.Sublist.refl _) | apply List.Sublist.cons)⟩, by show a.length + b.length - ((i) + (j + 1)) < a.length + b.length - (i + j); omega, inferInstance⟩
          | exact ⟨(i, j + 1, done, xs, pv, cv, Lb), rfl, ⟨rfl, rfl, rfl, trivial⟩, ⟨rfl, rfl, rfl, trivial⟩, ⟨by omega, by omega, ho, hcs.mono, (by rw [hmg, hstep, keep_zero hnz, List.nil_append]), by omega, (by repeat' first | exact List.Sublist.refl _ | apply List.Sublist.cons_cons | apply List.Sublist.append (List.Sublist.refl _) | apply List.Sublist.cons)⟩, by show a.length + b.length - ((i) + (j + 1)) < a.length + b.length - (i + j); omega, inferInstance⟩
      ·
        have hnz := (sgn_zero (k * u.2)).1 (Classical.not_not.1 c9)
        refine J.skip ?_
        first
          | exact ⟨(i, j + 1, done ++ [(u.1, k * u.2)], _, p29, c29, L29), rfl, ⟨rfl, rfl, rfl, trivial⟩, ⟨(by rw [List.length_append] <;> rfl), rfl, rfl, trivial⟩, ⟨by omega, by omega, (by rw [List.length_append]; exact ho29), (by rw [show cr (done ++ [(u.1, k * u.2)]) = cr done ++ [tm (u.1, k * u.2)] by simp [cr]]; exact hcs.mono.snoc rfl ⟨_, _, rfl, hnz2, hmz.mono⟩), (by rw [hmg, hstep, keep_pos hnz, List.append_assoc]), (by simp only [List.length_append, List.length_singleton]; omega), (by repeat' first | exact List.Sublist.refl _ | apply List.Sublist.cons_cons | apply List.Sublist.append (List.Sublist.refl _) | apply List.Sublist.cons)⟩, by show a.length + b.length - ((i) + (j + 1)) < a.length + b.length - (i + j); omega, inferInstance⟩
          | exact ⟨(i, j + 1, done, xs, pv, cv, Lb), rfl, ⟨rfl, rfl, rfl, trivial⟩, ⟨rfl, rfl, rfl, trivial⟩, ⟨by omega, by omega, ho, hcs.mono, (by rw [hmg, hstep, keep_zero hnz, List.nil_append]), by omega, (by repeat' first | exact List.Sublist.refl _ | apply List.Sublist.cons_cons | apply List.Sublist.append (List.Sublist.refl _) | apply List.Sublist.cons)⟩, by show a.length + b.length - ((i) + (j + 1)) < a.length + b.length - (i + j); omega, inferInstance⟩
    ·
      obtain ⟨t, ht⟩ := lt_get c1
      obtain ⟨kx, ox, qx, nx, rfl, hcx0, hcx1, hcx, hnx, hmx⟩ := Sls.term ha (map_get (f := tm) ht)
      have fa := hba t (List.mem_of_getElem? ht)
      obtain ⟨u, hu⟩ := lt_get c2
      obtain ⟨ky, oy, qy, ny, rfl, hcy0, hcy1, hcy, hny, hmy⟩ := Sls.term hb (map_get (f := tm) hu)
      have fb := hbb u (List.mem_of_getElem? hu)
      refine J.region ?_
      first | refine o_q (q_mvv (v := .int _ _) rfl) ?_ | refine o_q (q_mv) ?_
      first | refine o_q (q_mvv (v := .slice _ _ _) rfl) ?_ | refine o_q (q_mv) ?_
      refine o_q (q_len rfl) ?_
      refine o_q (q_lss rfl rfl) ?_
      first | refine o_q (q_mvv (v := .bool _) rfl) ?_ | refine o_q (q_mv) ?_
      refine JL.guardF rfl rfl (decide_eq_true (by omega)) rfl ?_
      refine JL.guardF rfl rfl (decide_eq_true (by omega)) rfl ?_
      refine JL.guardF rfl rfl (decide_eq_true (by omega)) rfl ?_
      refine JL.guardF rfl rfl (decide_eq_true (by omega)) rfl ?_
      refine o_q (q_pickT rfl (decide_eq_true (by omega))) ?_
      refine JL.nil ?_
      refine J.condT rfl rfl ?_
      refine J.skip ?_
      refine J.block ?_
      refine J.seq ?_
      refine J.region ?_
      first | refine o_q (q_bd [.int _ _, .bool _, .slice _ _ _] rfl) ?_ | refine o_q (q_bd [_, _, _] rfl) ?_
      refine o_al (fun b10 => ?_)
      refine o_stw (vs := [_, _, _]) rfl rfl rfl inferInstance rfl rfl ?_
      refine JL.nil ?_
      refine J.seq ?_
      refine J.block ?_
      refine J.seq ?_
      rcases (show t.1 < u.1 ∨ t.1 = u.1 ∨ u.1 < t.1 by omega) with q1 | q1 | q1
      ·
        have hmz : MagAt h (.slice qx (limbs t.2.natAbs).length nx) (limbs t.2.natAbs) := hmx
        have hnz2 : (limbs t.2.natAbs).length ≤ nx := hnx
        have fz : t.2.natAbs < 9223372036854775807 := by omega
        have hstep : mergeL k (a.drop i) (b.drop j) = keep (t.1, t.2) ++ mergeL k (a.drop (i + 1)) (b.drop j) := by
          rw [drop_get ht, drop_get hu, mergeL_lt _ _ _ _ _ q1]; simp
        refine J.drawA [] ?_
        first | refine JD.calc 0 (by kernel_rfl) rfl trivial ss_sub (q_mvv (v := .int _ _) rfl) ?_ | refine JD.calc 0 (by kernel_rfl) rfl trivial ss_sub (q_mv) ?_
        first | refine JD.calc 1 (by kernel_rfl) rfl trivial ss_sub (q_mvv (v := .slice _ _ _) rfl) ?_ | refine JD.calc 1 (by kernel_rfl) rfl trivial ss_sub (q_mv) ?_
        refine JD.calc 2 (by kernel_rfl) rfl trivial ss_sub (q_len rfl) ?_
        refine JD.calc 3 (by kernel_rfl) rfl trivial ss_sub (q_eql rfl rfl) ?_
        first | refine JD.calc 4 (by kernel_rfl) rfl trivial ss_sub (q_mvv (v := .bool _) rfl) ?_ | refine JD.calc 4 (by kernel_rfl) rfl trivial ss_sub (q_mv) ?_
        first | refine JD.calc 5 (by kernel_rfl) rfl ⟨_, rfl, (congrArg Value.bool (decide_eq_false (by omega)))⟩ ss_sub (q_mvv (v := .int _ _) rfl) ?_ | refine JD.calc 5 (by kernel_rfl) rfl ⟨_, rfl, (congrArg Value.bool (decide_eq_false (by omega)))⟩ ss_sub (q_mv) ?_
        first | refine JD.calc 6 (by kernel_rfl) rfl ⟨_, rfl, (congrArg Value.bool (decide_eq_false (by omega)))⟩ ss_sub (q_mvv (v := .slice _ _ _) rfl) ?_ | refine JD.calc 6 (by kernel_rfl) rfl ⟨_, rfl, (congrArg Value.bool (decide_eq_false (by omega)))⟩ ss_sub (q_mv) ?_
        refine JD.calc 7 (by kernel_rfl) rfl ⟨_, rfl, (congrArg Value.bool (decide_eq_false (by omega)))⟩ ss_sub (q_len rfl) ?_
        refine JD.calc 8 (by kernel_rfl) rfl ⟨_, rfl, (congrArg Value.bool (decide_eq_false (by omega)))⟩ ss_sub (q_lss rfl rfl) ?_
        first | refine JD.calc 9 (by kernel_rfl) rfl ⟨_, rfl, (congrArg Value.bool (decide_eq_false (by omega)))⟩ ss_sub (q_mvv (v := .bool _) rfl) ?_ | refine JD.calc 9 (by kernel_rfl) rfl ⟨_, rfl, (congrArg Value.bool (decide_eq_false (by omega)))⟩ ss_sub (q_mv) ?_
        first | refine JD.calc 10 (by kernel_rfl) rfl ⟨_, rfl, (congrArg Value.bool (decide_eq_true (by omega)))⟩ ss_sub (q_mvv (v := .slice _ _ _) rfl) ?_ | refine JD.calc 10 (by kernel_rfl) rfl ⟨_, rfl, (congrArg Value.bool (decide_eq_true (by omega)))⟩ ss_sub (q_mv) ?_
        first | refine JD.calc 11 (by kernel_rfl) rfl ⟨_, rfl, (congrArg Value.bool (decide_eq_true (by omega)))⟩ ss_sub (q_mvv (v := .int _ _) rfl) ?_ | refine JD.calc 11 (by kernel_rfl) rfl ⟨_, rfl, (congrArg Value.bool (decide_eq_true (by omega)))⟩ ss_sub (q_mv) ?_
        refine JD.calc 12 (by kernel_rfl) rfl ⟨_, rfl, (congrArg Value.bool (decide_eq_true (by omega)))⟩ ss_sub (q_ia rfl rfl (by omega)) ?_
        refine JD.calc 13 (by kernel_rfl) rfl ⟨_, rfl, (congrArg Value.bool (decide_eq_true (by omega)))⟩ ss_sub (q_fa rfl) ?_
        refine JD.load 14 (by kernel_rfl) rfl ⟨_, rfl, (congrArg Value.bool (decide_eq_true (by omega)))⟩ (q_ldf rfl hcx0) ?_
        first | refine JD.calc 15 (by kernel_rfl) rfl ⟨_, rfl, (congrArg Value.bool (decide_eq_true (by omega)))⟩ ss_sub (q_mvv (v := .slice _ _ _) rfl) ?_ | refine JD.calc 15 (by kernel_rfl) rfl ⟨_, rfl, (congrArg Value.bool (decide_eq_true (by omega)))⟩ ss_sub (q_mv) ?_
        first | refine JD.calc 16 (by kernel_rfl) rfl ⟨_, rfl, (congrArg Value.bool (decide_eq_true (by omega)))⟩ ss_sub (q_mvv (v := .int _ _) rfl) ?_ | refine JD.calc 16 (by kernel_rfl) rfl ⟨_, rfl, (congrArg Value.bool (decide_eq_true (by omega)))⟩ ss_sub (q_mv) ?_
        refine JD.calc 17 (by kernel_rfl) rfl ⟨_, rfl, (congrArg Value.bool (decide_eq_true (by omega)))⟩ ss_sub (q_ia rfl rfl (by omega)) ?_
        refine JD.calc 18 (by kernel_rfl) rfl ⟨_, rfl, (congrArg Value.bool (decide_eq_true (by omega)))⟩ ss_sub (q_fa rfl) ?_
        refine JD.load 19 (by kernel_rfl) rfl ⟨_, rfl, (congrArg Value.bool (decide_eq_true (by omega)))⟩ (q_ldf rfl hcy0) ?_
        refine JD.calc 20 (by kernel_rfl) rfl ⟨_, rfl, (congrArg Value.bool (decide_eq_true (by omega)))⟩ ss_sub (q_lss rfl rfl) ?_
        first | refine JD.calc 21 (by kernel_rfl) rfl ⟨_, rfl, (congrArg Value.bool (decide_eq_false (by omega)))⟩ ss_sub (q_pickTv (v := .bool _) rfl (decide_eq_true (by omega)) rfl) ?_ | refine JD.calc 21 (by kernel_rfl) rfl ⟨_, rfl, (congrArg Value.bool (decide_eq_false (by omega)))⟩ ss_sub (q_pickT rfl (decide_eq_true (by omega))) ?_
        first | refine JD.calc 22 (by kernel_rfl) rfl trivial ss_sub (q_pickFv (v := .bool _) rfl (decide_eq_false (by omega)) rfl) ?_ | refine JD.calc 22 (by kernel_rfl) rfl trivial ss_sub (q_pickF rfl (decide_eq_false (by omega))) ?_
        first | refine JD.calc 23 (by kernel_rfl) rfl trivial ss_sub (q_asv (v := .bool _) rfl) ?_ | refine JD.calc 23 (by kernel_rfl) rfl trivial ss_sub (q_as) ?_
        refine JD.done (by kernel_rfl) ?_ _
        refine J.condT rfl (decide_eq_true (by show t.1 < u.1; omega)) ?_
        refine J.seq ?_
        refine J.region ?_
        first | refine o_q (q_mvv (v := .slice _ _ _) rfl) ?_ | refine o_q (q_mv) ?_
        first | refine o_q (q_mvv (v := .int _ _) rfl) ?_ | refine o_q (q_mv) ?_
        refine o_q (q_ia rfl rfl (by omega)) ?_
        refine o_q (q_ldfa rfl hcx) ?_
        refine o_stw (vs := [_, _, _]) rfl rfl rfl inferInstance rfl rfl ?_
        refine JL.nil ?_
        refine J.region ?_
        first | refine o_q (q_mvv (v := .int _ _) rfl) ?_ | refine o_q (q_mv) ?_
        refine o_q (q_add (c := ((i + 1 : Nat) : Int)) rfl rfl (by rw [wi64 (by omega)]; omega)) ?_
        first | refine o_q (q_asv (v := .int _ _) rfl) ?_ | refine o_q (q_as) ?_
        refine JL.nil ?_
        refine J.seq ?_
        refine J.region ?_
        refine o_q (q_fa rfl) ?_
        refine o_q (q_lda (vs := [_, _]) rfl inferInstance ⟨rfl, rfl, trivial⟩) ?_
        refine o_call (signr_fn ⟨_, rfl, hmz.mono⟩ (Nat.le_trans (fit64 (z := t.2) (by omega)) (by decide))) (fun v24 h24 s24 e24 => ?_)
        subst e24
        refine o_q (q_neq rfl rfl) ?_
        refine JL.nil ?_
        refine J.condD rfl (fun c9 => ?_) (fun c9 => ?_)
        ·
          have hnz := fun e => c9 ((sgn_zero (t.2)).2 e)
          refine J.region ?_
          first | refine o_q (q_mvv (v := .slice _ _ _) rfl) ?_ | refine o_q (q_mv) ?_
          refine o_q (q_lda (vs := [_, _, _]) rfl inferInstance ⟨rfl, rfl, rfl, trivial⟩) ?_
          first | refine o_bs [.int _ _, .bool _, .slice _ _ _] (by decide) rfl (fun b115 => ?_) | refine o_bs [_, _, _] (by decide) rfl (fun b115 => ?_)
          refine o_app (m := 1) rfl rfl ho inferInstance (src_own inferInstance (LookN.all _) rfl (by simp [plain])) (by omega) (fun v29 L29 ho29 => ?_)
          obtain ⟨p29, c29, rfl⟩ := ho29.out
          first | refine o_q (q_asv (v := .slice _ _ _) rfl) ?_ | refine o_q (q_as) ?_
          refine JL.nil ?_
          first
            | exact ⟨(i + 1, j, done ++ [(t.1, t.2)], _, p29, c29, L29), rfl, ⟨rfl, rfl, rfl, trivial⟩, ⟨(by rw [List.length_append] <;> rfl), rfl, rfl, trivial⟩, ⟨by omega, by omega, (by rw [List.length_append]; exact ho29), (by rw [show cr (done ++ [(t.1, t.2)]) = cr done ++ [tm (t.1, t.2)] by simp [cr]]; exact hcs.mono.snoc rfl ⟨_, _, rfl, hnz2, hmz.mono⟩), (by rw [hmg, hstep, keep_pos hnz, List.append_assoc]), (by simp only [List.length_append, List.length_singleton]; omega), (by repeat' first | exact List.Sublist.refl _ | apply List.Sublist.cons_cons | apply List.Sublist.append (List.Sublist.refl _) | apply List.Sublist.cons)⟩, by show a.length + b.length - ((i + 1) + (j)) < a.length + b.length - (i + j); omega, inferInstance⟩
            | exact ⟨(i + 1, j, done, xs, pv, cv, Lb), rfl, ⟨rfl, rfl, rfl, trivial⟩, ⟨rfl, rfl, rfl, trivial⟩, ⟨by omega, by omega, ho, hcs.mono, (by rw [hmg, hstep, keep_zero hnz, List.nil_append]), by omega, (by repeat' first | exact List.Sublist.refl _ | apply List.Sublist.cons_cons | apply List.Sublist.append (List.Sublist.refl _) | apply List.Sublist.cons)⟩, by show a.length + b.length - ((i + 1) + (j)) < a.length + b.length - (i + j); omega, inferInstance⟩
        ·
          have hnz := (sgn_zero (t.2)).1 (Classical.not_not.1 c9)
          refine J.skip ?_
          first
            | exact ⟨(i + 1, j, done ++ [(t.1, t.2)], _, p29, c29, L29), rfl, ⟨rfl, rfl, rfl, trivial⟩, ⟨(by rw [List.length_append] <;> rfl), rfl, rfl, trivial⟩, ⟨by omega, by omega, (by rw [List.length_append]; exact ho29), (by rw [show cr (done ++ [(t.1, t.2)]) = cr done ++ [tm (t.1, t.2)] by simp [cr]]; exact hcs.mono.snoc rfl ⟨_, _, rfl, hnz2, hmz.mono⟩), (by rw [hmg, hstep, keep_pos hnz, List.append_assoc]), (by simp only [List.length_append, List.length_singleton]; omega), (by repeat' first | exact List.Sublist.refl _ | apply List.Sublist.cons_cons | apply List.Sublist.append (List.Sublist.refl _) | apply List.Sublist.cons)⟩, by show a.length + b.length - ((i + 1) + (j)) < a.length + b.length - (i + j); omega, inferInstance⟩
            | exact ⟨(i + 1, j, done, xs, pv, cv, Lb), rfl, ⟨rfl, rfl, rfl, trivial⟩, ⟨rfl, rfl, rfl, trivial⟩, ⟨by omega, by omega, ho, hcs.mono, (by rw [hmg, hstep, keep_zero hnz, List.nil_append]), by omega, (by repeat' first | exact List.Sublist.refl _ | apply List.Sublist.cons_cons | apply List.Sublist.append (List.Sublist.refl _) | apply List.Sublist.cons)⟩, by show a.length + b.length - ((i + 1) + (j)) < a.length + b.length - (i + j); omega, inferInstance⟩
      ·
        have hstep : mergeL k (a.drop i) (b.drop j) = keep (t.1, t.2 + k * u.2) ++ mergeL k (a.drop (i + 1)) (b.drop (j + 1)) := by
          rw [drop_get ht, drop_get hu, mergeL_eq _ _ _ _ _ q1]
        refine J.drawA [] ?_
        first | refine JD.calc 0 (by kernel_rfl) rfl trivial ss_sub (q_mvv (v := .int _ _) rfl) ?_ | refine JD.calc 0 (by kernel_rfl) rfl trivial ss_sub (q_mv) ?_
        first | refine JD.calc 1 (by kernel_rfl) rfl trivial ss_sub (q_mvv (v := .slice _ _ _) rfl) ?_ | refine JD.calc 1 (by kernel_rfl) rfl trivial ss_sub (q_mv) ?_
        refine JD.calc 2 (by kernel_rfl) rfl trivial ss_sub (q_len rfl) ?_
        refine JD.calc 3 (by kernel_rfl) rfl trivial ss_sub (q_eql rfl rfl) ?_
        first | refine JD.calc 4 (by kernel_rfl) rfl trivial ss_sub (q_mvv (v := .bool _) rfl) ?_ | refine JD.calc 4 (by kernel_rfl) rfl trivial ss_sub (q_mv) ?_
        first | refine JD.calc 5 (by kernel_rfl) rfl ⟨_, rfl, (congrArg Value.bool (decide_eq_false (by omega)))⟩ ss_sub (q_mvv (v := .int _ _) rfl) ?_ | refine JD.calc 5 (by kernel_rfl) rfl ⟨_, rfl, (congrArg Value.bool (decide_eq_false (by omega)))⟩ ss_sub (q_mv) ?_
        first | refine JD.calc 6 (by kernel_rfl) rfl ⟨_, rfl, (congrArg Value.bool (decide_eq_false (by omega)))⟩ ss_sub (q_mvv (v := .slice _ _ _) rfl) ?_ | refine JD.calc 6 (by kernel_rfl) rfl ⟨_, rfl, (congrArg Value.bool (decide_eq_false (by omega)))⟩ ss_sub (q_mv) ?_
        refine JD.calc 7 (by kernel_rfl) rfl ⟨_, rfl, (congrArg Value.bool (decide_eq_false (by omega)))⟩ ss_sub (q_len rfl) ?_
        refine JD.calc 8 (by kernel_rfl) rfl ⟨_, rfl, (congrArg Value.bool (decide_eq_false (by omega)))⟩ ss_sub (q_lss rfl rfl) ?_
        first | refine JD.calc 9 (by kernel_rfl) rfl ⟨_, rfl, (congrArg Value.bool (decide_eq_false (by omega)))⟩ ss_sub (q_mvv (v := .bool _) rfl) ?_ | refine JD.calc 9 (by kernel_rfl) rfl ⟨_, rfl, (congrArg Value.bool (decide_eq_false (by omega)))⟩ ss_sub (q_mv) ?_
        first | refine JD.calc 10 (by kernel_rfl) rfl ⟨_, rfl, (congrArg Value.bool (decide_eq_true (by omega)))⟩ ss_sub (q_mvv (v := .slice _ _ _) rfl) ?_ | refine JD.calc 10 (by kernel_rfl) rfl ⟨_, rfl, (congrArg Value.bool (decide_eq_true (by omega)))⟩ ss_sub (q_mv) ?_
        first | refine JD.calc 11 (by kernel_rfl) rfl ⟨_, rfl, (congrArg Value.bool (decide_eq_true (by omega)))⟩ ss_sub (q_mvv (v := .int _ _) rfl) ?_ | refine JD.calc 11 (by kernel_rfl) rfl ⟨_, rfl, (congrArg Value.bool (decide_eq_true (by omega)))⟩ ss_sub (q_mv) ?_
        refine JD.calc 12 (by kernel_rfl) rfl ⟨_, rfl, (congrArg Value.bool (decide_eq_true (by omega)))⟩ ss_sub (q_ia rfl rfl (by omega)) ?_
        refine JD.calc 13 (by kernel_rfl) rfl ⟨_, rfl, (congrArg Value.bool (decide_eq_true (by omega)))⟩ ss_sub (q_fa rfl) ?_
        refine JD.load 14 (by kernel_rfl) rfl ⟨_, rfl, (congrArg Value.bool (decide_eq_true (by omega)))⟩ (q_ldf rfl hcx0) ?_
        first | refine JD.calc 15 (by kernel_rfl) rfl ⟨_, rfl, (congrArg Value.bool (decide_eq_true (by omega)))⟩ ss_sub (q_mvv (v := .slice _ _ _) rfl) ?_ | refine JD.calc 15 (by kernel_rfl) rfl ⟨_, rfl, (congrArg Value.bool (decide_eq_true (by omega)))⟩ ss_sub (q_mv) ?_
        first | refine JD.calc 16 (by kernel_rfl) rfl ⟨_, rfl, (congrArg Value.bool (decide_eq_true (by omega)))⟩ ss_sub (q_mvv (v := .int _ _) rfl) ?_ | refine JD.calc 16 (by kernel_rfl) rfl ⟨_, rfl, (congrArg Value.bool (decide_eq_true (by omega)))⟩ ss_sub (q_mv) ?_
        refine JD.calc 17 (by kernel_rfl) rfl ⟨_, rfl, (congrArg Value.bool (decide_eq_true (by omega)))⟩ ss_sub (q_ia rfl rfl (by omega)) ?_
        refine JD.calc 18 (by kernel_rfl) rfl ⟨_, rfl, (congrArg Value.bool (decide_eq_true (by omega)))⟩ ss_sub (q_fa rfl) ?_
        refine JD.load 19 (by kernel_rfl) rfl ⟨_, rfl, (congrArg Value.bool (decide_eq_true (by omega)))⟩ (q_ldf rfl hcy0) ?_
        refine JD.calc 20 (by kernel_rfl) rfl ⟨_, rfl, (congrArg Value.bool (decide_eq_true (by omega)))⟩ ss_sub (q_lss rfl rfl) ?_
        first | refine JD.calc 21 (by kernel_rfl) rfl ⟨_, rfl, (congrArg Value.bool (decide_eq_false (by omega)))⟩ ss_sub (q_pickTv (v := .bool _) rfl (decide_eq_true (by omega)) rfl) ?_ | refine JD.calc 21 (by kernel_rfl) rfl ⟨_, rfl, (congrArg Value.bool (decide_eq_false (by omega)))⟩ ss_sub (q_pickT rfl (decide_eq_true (by omega))) ?_
        first | refine JD.calc 22 (by kernel_rfl) rfl trivial ss_sub (q_pickFv (v := .bool _) rfl (decide_eq_false (by omega)) rfl) ?_ | refine JD.calc 22 (by kernel_rfl) rfl trivial ss_sub (q_pickF rfl (decide_eq_false (by omega))) ?_
        first | refine JD.calc 23 (by kernel_rfl) rfl trivial ss_sub (q_asv (v := .bool _) rfl) ?_ | refine JD.calc 23 (by kernel_rfl) rfl trivial ss_sub (q_as) ?_
        refine JD.done (by kernel_rfl) ?_ _
        refine J.condF rfl (decide_eq_false (by show ¬ t.1 < u.1; omega)) ?_
        refine J.seq ?_
        refine J.drawA [] ?_
        first | refine JD.calc 0 (by kernel_rfl) rfl trivial ss_sub (q_mvv (v := .int _ _) rfl) ?_ | refine JD.calc 0 (by kernel_rfl) rfl trivial ss_sub (q_mv) ?_
        first | refine JD.calc 1 (by kernel_rfl) rfl trivial ss_sub (q_mvv (v := .slice _ _ _) rfl) ?_ | refine JD.calc 1 (by kernel_rfl) rfl trivial ss_sub (q_mv) ?_
        refine JD.calc 2 (by kernel_rfl) rfl trivial ss_sub (q_len rfl) ?_
        refine JD.calc 3 (by kernel_rfl) rfl trivial ss_sub (q_eql rfl rfl) ?_
        first | refine JD.calc 4 (by kernel_rfl) rfl trivial ss_sub (q_mvv (v := .bool _) rfl) ?_ | refine JD.calc 4 (by kernel_rfl) rfl trivial ss_sub (q_mv) ?_
        first | refine JD.calc 5 (by kernel_rfl) rfl ⟨_, rfl, (congrArg Value.bool (decide_eq_false (by omega)))⟩ ss_sub (q_mvv (v := .slice _ _ _) rfl) ?_ | refine JD.calc 5 (by kernel_rfl) rfl ⟨_, rfl, (congrArg Value.bool (decide_eq_false (by omega)))⟩ ss_sub (q_mv) ?_
        first | refine JD.calc 6 (by kernel_rfl) rfl ⟨_, rfl, (congrArg Value.bool (decide_eq_false (by omega)))⟩ ss_sub (q_mvv (v := .int _ _) rfl) ?_ | refine JD.calc 6 (by kernel_rfl) rfl ⟨_, rfl, (congrArg Value.bool (decide_eq_false (by omega)))⟩ ss_sub (q_mv) ?_
        refine JD.calc 7 (by kernel_rfl) rfl ⟨_, rfl, (congrArg Value.bool (decide_eq_false (by omega)))⟩ ss_sub (q_ia rfl rfl (by omega)) ?_
        refine JD.calc 8 (by kernel_rfl) rfl ⟨_, rfl, (congrArg Value.bool (decide_eq_false (by omega)))⟩ ss_sub (q_fa rfl) ?_
        refine JD.load 9 (by kernel_rfl) rfl ⟨_, rfl, (congrArg Value.bool (decide_eq_false (by omega)))⟩ (q_ldf rfl hcy0) ?_
        first | refine JD.calc 10 (by kernel_rfl) rfl ⟨_, rfl, (congrArg Value.bool (decide_eq_false (by omega)))⟩ ss_sub (q_mvv (v := .slice _ _ _) rfl) ?_ | refine JD.calc 10 (by kernel_rfl) rfl ⟨_, rfl, (congrArg Value.bool (decide_eq_false (by omega)))⟩ ss_sub (q_mv) ?_
        first | refine JD.calc 11 (by kernel_rfl) rfl ⟨_, rfl, (congrArg Value.bool (decide_eq_false (by omega)))⟩ ss_sub (q_mvv (v := .int _ _) rfl) ?_ | refine JD.calc 11 (by kernel_rfl) rfl ⟨_, rfl, (congrArg Value.bool (decide_eq_false (by omega)))⟩ ss_sub (q_mv) ?_
        refine JD.calc 12 (by kernel_rfl) rfl ⟨_, rfl, (congrArg Value.bool (decide_eq_false (by omega)))⟩ ss_sub (q_ia rfl rfl (by omega)) ?_
        refine JD.calc 13 (by kernel_rfl) rfl ⟨_, rfl, (congrArg Value.bool (decide_eq_false (by omega)))⟩ ss_sub (q_fa rfl) ?_
        refine JD.load 14 (by kernel_rfl) rfl ⟨_, rfl, (congrArg Value.bool (decide_eq_false (by omega)))⟩ (q_ldf rfl hcx0) ?_
        refine JD.calc 15 (by kernel_rfl) rfl ⟨_, rfl, (congrArg Value.bool (decide_eq_false (by omega)))⟩ ss_sub (q_lss rfl rfl) ?_
        first | refine JD.calc 16 (by kernel_rfl) rfl trivial ss_sub (q_pickFv (v := .bool _) rfl (decide_eq_false (by omega)) rfl) ?_ | refine JD.calc 16 (by kernel_rfl) rfl trivial ss_sub (q_pickF rfl (decide_eq_false (by omega))) ?_
        first | refine JD.calc 17 (by kernel_rfl) rfl trivial ss_sub (q_asv (v := .bool _) rfl) ?_ | refine JD.calc 17 (by kernel_rfl) rfl trivial ss_sub (q_as) ?_
        refine JD.done (by kernel_rfl) ?_ _
        refine J.condF rfl (decide_eq_false (by show ¬ u.1 < t.1; omega)) ?_
        refine J.seq ?_
        refine J.drawA [19] ?_
        first | refine JD.calc 0 (by kernel_rfl) rfl trivial ss_sub (q_mvv (v := .slice _ _ _) rfl) ?_ | refine JD.calc 0 (by kernel_rfl) rfl trivial ss_sub (q_mv) ?_
        first | refine JD.calc 1 (by kernel_rfl) rfl trivial ss_sub (q_mvv (v := .int _ _) rfl) ?_ | refine JD.calc 1 (by kernel_rfl) rfl trivial ss_sub (q_mv) ?_
        refine JD.calc 2 (by kernel_rfl) rfl trivial ss_sub (q_ia rfl rfl (by omega)) ?_
        refine JD.calc 3 (by kernel_rfl) rfl trivial ss_sub (q_fa rfl) ?_
        refine JD.load 4 (by kernel_rfl) rfl trivial (q_ldf rfl hcx0) ?_
        first | refine JD.calc 5 (by kernel_rfl) rfl trivial ss_sub (q_mvv (v := .slice _ _ _) rfl) ?_ | refine JD.calc 5 (by kernel_rfl) rfl trivial ss_sub (q_mv) ?_
        first | refine JD.calc 6 (by kernel_rfl) rfl trivial ss_sub (q_mvv (v := .int _ _) rfl) ?_ | refine JD.calc 6 (by kernel_rfl) rfl trivial ss_sub (q_mv) ?_
        refine JD.calc 7 (by kernel_rfl) rfl trivial ss_sub (q_ia rfl rfl (by omega)) ?_
        refine JD.calc 8 (by kernel_rfl) rfl trivial ss_sub (q_fa rfl) ?_
        refine JD.load 9 (by kernel_rfl) rfl trivial (q_ldfa rfl hcx1) ?_
        refine JD.load 10 (by kernel_rfl) rfl trivial (q_lda (vs := [_, _]) rfl inferInstance ⟨rfl, rfl, trivial⟩) ?_
        first | refine JD.calc 11 (by kernel_rfl) rfl trivial ss_sub (q_mvv (v := .slice _ _ _) rfl) ?_ | refine JD.calc 11 (by kernel_rfl) rfl trivial ss_sub (q_mv) ?_
        first | refine JD.calc 12 (by kernel_rfl) rfl trivial ss_sub (q_mvv (v := .int _ _) rfl) ?_ | refine JD.calc 12 (by kernel_rfl) rfl trivial ss_sub (q_mv) ?_
        refine JD.calc 13 (by kernel_rfl) rfl trivial ss_sub (q_ia rfl rfl (by omega)) ?_
        refine JD.calc 14 (by kernel_rfl) rfl trivial ss_sub (q_fa rfl) ?_
        refine JD.load 15 (by kernel_rfl) rfl trivial (q_ldfa rfl hcy1) ?_
        refine JD.one 16 (by kernel_rfl) ?_
        refine JX.eff rfl rfl trivial ?_
        refine o_call (mulr_fn ⟨_, rfl, hkm.mono⟩ ⟨_, rfl, hmy.mono⟩ (fit64 (by omega)) (fit64 (by omega))) (fun v19 h19 s19 hr19 => ?_)
        have hky := Nat.mul_le_mul (Nat.le_of_lt_succ hkk) (Nat.le_of_lt_succ fb)
        rw [← Int.natAbs_mul] at hky
        refine JL.nil ⟨rfl, inferInstance, inferInstance, ?_⟩
        refine JD.one 17 (by kernel_rfl) ?_
        refine JX.eff rfl rfl trivial ?_
        refine o_call (addr_fn (x := t.2) ⟨_, rfl, hmx.mono⟩ hr19.mono (fit64 (by omega)) (fit64 (by omega))) (fun v20 h20 s20 hr20 => ?_)
        have hadd := Int.natAbs_add_le t.2 (k * u.2)
        obtain ⟨pz, cz, rfl, hnz2, hmz⟩ := hr20.out
        refine JL.nil ⟨rfl, inferInstance, inferInstance, ?_⟩
        first | refine JD.calc 18 (by kernel_rfl) rfl trivial ss_sub (q_bd [.int _ _, .bool _, .slice _ _ _] rfl) ?_ | refine JD.calc 18 (by kernel_rfl) rfl trivial ss_sub (q_bd [_, _, _] rfl) ?_
        refine JD.one 19 (by kernel_rfl) ?_
        refine JX.mut rfl rfl trivial ?_
        refine o_stw (vs := [_, _, _]) rfl rfl rfl inferInstance rfl rfl ?_
        refine JL.nil ⟨rfl, ?_⟩
        refine JD.done (by kernel_rfl) ?_ _
        refine J.seq ?_
        refine J.region ?_
        first | refine o_q (q_mvv (v := .int _ _) rfl) ?_ | refine o_q (q_mv) ?_
        refine o_q (q_add (c := ((i + 1 : Nat) : Int)) rfl rfl (by rw [wi64 (by omega)]; omega)) ?_
        first | refine o_q (q_asv (v := .int _ _) rfl) ?_ | refine o_q (q_as) ?_
        refine JL.nil ?_
        refine J.region ?_
        first | refine o_q (q_mvv (v := .int _ _) rfl) ?_ | refine o_q (q_mv) ?_
        refine o_q (q_add (c := ((j + 1 : Nat) : Int)) rfl rfl (by rw [wi64 (by omega)]; omega)) ?_
        first | refine o_q (q_asv (v := .int _ _) rfl) ?_ | refine o_q (q_as) ?_
        refine JL.nil ?_
        refine J.seq ?_
        refine J.region ?_
        refine o_q (q_fa rfl) ?_
        refine o_q (q_lda (vs := [_, _]) rfl inferInstance ⟨rfl, rfl, trivial⟩) ?_
        refine o_call (signr_fn ⟨_, rfl, hmz.mono⟩ (Nat.le_trans (fit64 (z := t.2 + k * u.2) (by omega)) (by decide))) (fun v24 h24 s24 e24 => ?_)
        subst e24
        refine o_q (q_neq rfl rfl) ?_
        refine JL.nil ?_
        refine J.condD rfl (fun c9 => ?_) (fun c9 => ?_)
        ·
          have hnz := fun e => c9 ((sgn_zero (t.2 + k * u.2)).2 e)
          refine J.region ?_
          first | refine o_q (q_mvv (v := .slice _ _ _) rfl) ?_ | refine o_q (q_mv) ?_
          refine o_q (q_lda (vs := [_, _, _]) rfl inferInstance ⟨rfl, rfl, rfl, trivial⟩) ?_
          first | refine o_bs [.int _ _, .bool _, .slice _ _ _] (by decide) rfl (fun b115 => ?_) | refine o_bs [_, _, _] (by decide) rfl (fun b115 => ?_)
          refine o_app (m := 1) rfl rfl ho inferInstance (src_own inferInstance (LookN.all _) rfl (by simp [plain])) (by omega) (fun v29 L29 ho29 => ?_)
          obtain ⟨p29, c29, rfl⟩ := ho29.out
          first | refine o_q (q_asv (v := .slice _ _ _) rfl) ?_ | refine o_q (q_as) ?_
          refine JL.nil ?_
          first
            | exact ⟨(i + 1, j + 1, done ++ [(t.1, t.2 + k * u.2)], _, p29, c29, L29), rfl, ⟨rfl, rfl, rfl, trivial⟩, ⟨(by rw [List.length_append] <;> rfl), rfl, rfl, trivial⟩, ⟨by omega, by omega, (by rw [List.length_append]; exact ho29), (by rw [show cr (done ++ [(t.1, t.2 + k * u.2)]) = cr done ++ [tm (t.1, t.2 + k * u.2)] by simp [cr]]; exact hcs.mono.snoc rfl ⟨_, _, rfl, hnz2, hmz.mono⟩), (by rw [hmg, hstep, keep_pos hnz, List.append_assoc]), (by simp only [List.length_append, List.length_singleton]; omega), (by repeat' first | exact List.Sublist.refl _ | apply List.Sublist.cons_cons | apply List.Sublist.append (List.Sublist.refl _) | apply List.Sublist.cons)⟩, by show a.length + b.length - ((i + 1) + (j + 1)) < a.length + b.length - (i + j); omega, inferInstance⟩
            | exact ⟨(i + 1, j + 1, done, xs, pv, cv, Lb), rfl, ⟨rfl, rfl, rfl, trivial⟩, ⟨rfl, rfl, rfl, trivial⟩, ⟨by omega, by omega, ho, hcs.mono, (by rw [hmg, hstep, keep_zero hnz, List.nil_append]), by omega, (by repeat' first | exact List.Sublist.refl _ | apply List.Sublist.cons_cons | apply List.Sublist.append (List.Sublist.refl _) | apply List.Sublist.cons)⟩, by show a.length + b.length - ((i + 1) + (j + 1)) < a.length + b.length - (i + j); omega, inferInstance⟩
        ·
          have hnz := (sgn_zero (t.2 + k * u.2)).1 (Classical.not_not.1 c9)
          refine J.skip ?_
          first
            | exact ⟨(i + 1, j + 1, done ++ [(t.1, t.2 + k * u.2)], _, p29, c29, L29), rfl, ⟨rfl, rfl, rfl, trivial⟩, ⟨(by rw [List.length_append] <;> rfl), rfl, rfl, trivial⟩, ⟨by omega, by omega, (by rw [List.length_append]; exact ho29), (by rw [show cr (done ++ [(t.1, t.2 + k * u.2)]) = cr done ++ [tm (t.1, t.2 + k * u.2)] by simp [cr]]; exact hcs.mono.snoc rfl ⟨_, _, rfl, hnz2, hmz.mono⟩), (by rw [hmg, hstep, keep_pos hnz, List.append_assoc]), (by simp only [List.length_append, List.length_singleton]; omega), (by repeat' first | exact List.Sublist.refl _ | apply List.Sublist.cons_cons | apply List.Sublist.append (List.Sublist.refl _) | apply List.Sublist.cons)⟩, by show a.length + b.length - ((i + 1) + (j + 1)) < a.length + b.length - (i + j); omega, inferInstance⟩
            | exact ⟨(i + 1, j + 1, done, xs, pv, cv, Lb), rfl, ⟨rfl, rfl, rfl, trivial⟩, ⟨rfl, rfl, rfl, trivial⟩, ⟨by omega, by omega, ho, hcs.mono, (by rw [hmg, hstep, keep_zero hnz, List.nil_append]), by omega, (by repeat' first | exact List.Sublist.refl _ | apply List.Sublist.cons_cons | apply List.Sublist.append (List.Sublist.refl _) | apply List.Sublist.cons)⟩, by show a.length + b.length - ((i + 1) + (j + 1)) < a.length + b.length - (i + j); omega, inferInstance⟩
      ·
        have hstep : mergeL k (a.drop i) (b.drop j) = keep (u.1, k * u.2) ++ mergeL k (a.drop i) (b.drop (j + 1)) := by
          rw [drop_get ht, drop_get hu, mergeL_gt _ _ _ _ _ q1]; simp
        refine J.drawA [] ?_
        first | refine JD.calc 0 (by kernel_rfl) rfl trivial ss_sub (q_mvv (v := .int _ _) rfl) ?_ | refine JD.calc 0 (by kernel_rfl) rfl trivial ss_sub (q_mv) ?_
        first | refine JD.calc 1 (by kernel_rfl) rfl trivial ss_sub (q_mvv (v := .slice _ _ _) rfl) ?_ | refine JD.calc 1 (by kernel_rfl) rfl trivial ss_sub (q_mv) ?_
        refine JD.calc 2 (by kernel_rfl) rfl trivial ss_sub (q_len rfl) ?_
        refine JD.calc 3 (by kernel_rfl) rfl trivial ss_sub (q_eql rfl rfl) ?_
        first | refine JD.calc 4 (by kernel_rfl) rfl trivial ss_sub (q_mvv (v := .bool _) rfl) ?_ | refine JD.calc 4 (by kernel_rfl) rfl trivial ss_sub (q_mv) ?_
        first | refine JD.calc 5 (by kernel_rfl) rfl ⟨_, rfl, (congrArg Value.bool (decide_eq_false (by omega)))⟩ ss_sub (q_mvv (v := .int _ _) rfl) ?_ | refine JD.calc 5 (by kernel_rfl) rfl ⟨_, rfl, (congrArg Value.bool (decide_eq_false (by omega)))⟩ ss_sub (q_mv) ?_
        first | refine JD.calc 6 (by kernel_rfl) rfl ⟨_, rfl, (congrArg Value.bool (decide_eq_false (by omega)))⟩ ss_sub (q_mvv (v := .slice _ _ _) rfl) ?_ | refine JD.calc 6 (by kernel_rfl) rfl ⟨_, rfl, (congrArg Value.bool (decide_eq_false (by omega)))⟩ ss_sub (q_mv) ?_
        refine JD.calc 7 (by kernel_rfl) rfl ⟨_, rfl, (congrArg Value.bool (decide_eq_false (by omega)))⟩ ss_sub (q_len rfl) ?_
        refine JD.calc 8 (by kernel_rfl) rfl ⟨_, rfl, (congrArg Value.bool (decide_eq_false (by omega)))⟩ ss_sub (q_lss rfl rfl) ?_
        first | refine JD.calc 9 (by kernel_rfl) rfl ⟨_, rfl, (congrArg Value.bool (decide_eq_false (by omega)))⟩ ss_sub (q_mvv (v := .bool _) rfl) ?_ | refine JD.calc 9 (by kernel_rfl) rfl ⟨_, rfl, (congrArg Value.bool (decide_eq_false (by omega)))⟩ ss_sub (q_mv) ?_
        first | refine JD.calc 10 (by kernel_rfl) rfl ⟨_, rfl, (congrArg Value.bool (decide_eq_true (by omega)))⟩ ss_sub (q_mvv (v := .slice _ _ _) rfl) ?_ | refine JD.calc 10 (by kernel_rfl) rfl ⟨_, rfl, (congrArg Value.bool (decide_eq_true (by omega)))⟩ ss_sub (q_mv) ?_
        first | refine JD.calc 11 (by kernel_rfl) rfl ⟨_, rfl, (congrArg Value.bool (decide_eq_true (by omega)))⟩ ss_sub (q_mvv (v := .int _ _) rfl) ?_ | refine JD.calc 11 (by kernel_rfl) rfl ⟨_, rfl, (congrArg Value.bool (decide_eq_true (by omega)))⟩ ss_sub (q_mv) ?_
        refine JD.calc 12 (by kernel_rfl) rfl ⟨_, rfl, (congrArg Value.bool (decide_eq_true (by omega)))⟩ ss_sub (q_ia rfl rfl (by omega)) ?_
        refine JD.calc 13 (by kernel_rfl) rfl ⟨_, rfl, (congrArg Value.bool (decide_eq_true (by omega)))⟩ ss_sub (q_fa rfl) ?_
        refine JD.load 14 (by kernel_rfl) rfl ⟨_, rfl, (congrArg Value.bool (decide_eq_true (by omega)))⟩ (q_ldf rfl hcx0) ?_
        first | refine JD.calc 15 (by kernel_rfl) rfl ⟨_, rfl, (congrArg Value.bool (decide_eq_true (by omega)))⟩ ss_sub (q_mvv (v := .slice _ _ _) rfl) ?_ | refine JD.calc 15 (by kernel_rfl) rfl ⟨_, rfl, (congrArg Value.bool (decide_eq_true (by omega)))⟩ ss_sub (q_mv) ?_
        first | refine JD.calc 16 (by kernel_rfl) rfl ⟨_, rfl, (congrArg Value.bool (decide_eq_true (by omega)))⟩ ss_sub (q_mvv (v := .int _ _) rfl) ?_ | refine JD.calc 16 (by kernel_rfl) rfl ⟨_, rfl, (congrArg Value.bool (decide_eq_true (by omega)))⟩ ss_sub (q_mv) ?_
        refine JD.calc 17 (by kernel_rfl) rfl ⟨_, rfl, (congrArg Value.bool (decide_eq_true (by omega)))⟩ ss_sub (q_ia rfl rfl (by omega)) ?_
        refine JD.calc 18 (by kernel_rfl) rfl ⟨_, rfl, (congrArg Value.bool (decide_eq_true (by omega)))⟩ ss_sub (q_fa rfl) ?_
        refine JD.load 19 (by kernel_rfl) rfl ⟨_, rfl, (congrArg Value.bool (decide_eq_true (by omega)))⟩ (q_ldf rfl hcy0) ?_
        refine JD.calc 20 (by kernel_rfl) rfl ⟨_, rfl, (congrArg Value.bool (decide_eq_true (by omega)))⟩ ss_sub (q_lss rfl rfl) ?_
        first | refine JD.calc 21 (by kernel_rfl) rfl ⟨_, rfl, (congrArg Value.bool (decide_eq_false (by omega)))⟩ ss_sub (q_pickTv (v := .bool _) rfl (decide_eq_true (by omega)) rfl) ?_ | refine JD.calc 21 (by kernel_rfl) rfl ⟨_, rfl, (congrArg Value.bool (decide_eq_false (by omega)))⟩ ss_sub (q_pickT rfl (decide_eq_true (by omega))) ?_
        first | refine JD.calc 22 (by kernel_rfl) rfl trivial ss_sub (q_pickFv (v := .bool _) rfl (decide_eq_false (by omega)) rfl) ?_ | refine JD.calc 22 (by kernel_rfl) rfl trivial ss_sub (q_pickF rfl (decide_eq_false (by omega))) ?_
        first | refine JD.calc 23 (by kernel_rfl) rfl trivial ss_sub (q_asv (v := .bool _) rfl) ?_ | refine JD.calc 23 (by kernel_rfl) rfl trivial ss_sub (q_as) ?_
        refine JD.done (by kernel_rfl) ?_ _
        refine J.condF rfl (decide_eq_false (by show ¬ t.1 < u.1; omega)) ?_
        refine J.seq ?_
        refine J.drawA [] ?_
        first | refine JD.calc 0 (by kernel_rfl) rfl trivial ss_sub (q_mvv (v := .int _ _) rfl) ?_ | refine JD.calc 0 (by kernel_rfl) rfl trivial ss_sub (q_mv) ?_
        first | refine JD.calc 1 (by kernel_rfl) rfl trivial ss_sub (q_mvv (v := .slice _ _ _) rfl) ?_ | refine JD.calc 1 (by kernel_rfl) rfl trivial ss_sub (q_mv) ?_
        refine JD.calc 2 (by kernel_rfl) rfl trivial ss_sub (q_len rfl) ?_
        refine JD.calc 3 (by kernel_rfl) rfl trivial ss_sub (q_eql rfl rfl) ?_
        first | refine JD.calc 4 (by kernel_rfl) rfl trivial ss_sub (q_mvv (v := .bool _) rfl) ?_ | refine JD.calc 4 (by kernel_rfl) rfl trivial ss_sub (q_mv) ?_
        first | refine JD.calc 5 (by kernel_rfl) rfl ⟨_, rfl, (congrArg Value.bool (decide_eq_false (by omega)))⟩ ss_sub (q_mvv (v := .slice _ _ _) rfl) ?_ | refine JD.calc 5 (by kernel_rfl) rfl ⟨_, rfl, (congrArg Value.bool (decide_eq_false (by omega)))⟩ ss_sub (q_mv) ?_
        first | refine JD.calc 6 (by kernel_rfl) rfl ⟨_, rfl, (congrArg Value.bool (decide_eq_false (by omega)))⟩ ss_sub (q_mvv (v := .int _ _) rfl) ?_ | refine JD.calc 6 (by kernel_rfl) rfl ⟨_, rfl, (congrArg Value.bool (decide_eq_false (by omega)))⟩ ss_sub (q_mv) ?_
        refine JD.calc 7 (by kernel_rfl) rfl ⟨_, rfl, (congrArg Value.bool (decide_eq_false (by omega)))⟩ ss_sub (q_ia rfl rfl (by omega)) ?_
        refine JD.calc 8 (by kernel_rfl) rfl ⟨_, rfl, (congrArg Value.bool (decide_eq_false (by omega)))⟩ ss_sub (q_fa rfl) ?_
        refine JD.load 9 (by kernel_rfl) rfl ⟨_, rfl, (congrArg Value.bool (decide_eq_false (by omega)))⟩ (q_ldf rfl hcy0) ?_
        first | refine JD.calc 10 (by kernel_rfl) rfl ⟨_, rfl, (congrArg Value.bool (decide_eq_false (by omega)))⟩ ss_sub (q_mvv (v := .slice _ _ _) rfl) ?_ | refine JD.calc 10 (by kernel_rfl) rfl ⟨_, rfl, (congrArg Value.bool (decide_eq_false (by omega)))⟩ ss_sub (q_mv) ?_
        first | refine JD.calc 11 (by kernel_rfl) rfl ⟨_, rfl, (congrArg Value.bool (decide_eq_false (by omega)))⟩ ss_sub (q_mvv (v := .int _ _) rfl) ?_ | refine JD.calc 11 (by kernel_rfl) rfl ⟨_, rfl, (congrArg Value.bool (decide_eq_false (by omega)))⟩ ss_sub (q_mv) ?_
        refine JD.calc 12 (by kernel_rfl) rfl ⟨_, rfl, (congrArg Value.bool (decide_eq_false (by omega)))⟩ ss_sub (q_ia rfl rfl (by omega)) ?_
        refine JD.calc 13 (by kernel_rfl) rfl ⟨_, rfl, (congrArg Value.bool (decide_eq_false (by omega)))⟩ ss_sub (q_fa rfl) ?_
        refine JD.load 14 (by kernel_rfl) rfl ⟨_, rfl, (congrArg Value.bool (decide_eq_false (by omega)))⟩ (q_ldf rfl hcx0) ?_
        refine JD.calc 15 (by kernel_rfl) rfl ⟨_, rfl, (congrArg Value.bool (decide_eq_false (by omega)))⟩ ss_sub (q_lss rfl rfl) ?_
        first | refine JD.calc 16 (by kernel_rfl) rfl trivial ss_sub (q_pickFv (v := .bool _) rfl (decide_eq_false (by omega)) rfl) ?_ | refine JD.calc 16 (by kernel_rfl) rfl trivial ss_sub (q_pickF rfl (decide_eq_false (by omega))) ?_
        first | refine JD.calc 17 (by kernel_rfl) rfl trivial ss_sub (q_asv (v := .bool _) rfl) ?_ | refine JD.calc 17 (by kernel_rfl) rfl trivial ss_sub (q_as) ?_
        refine JD.done (by kernel_rfl) ?_ _
        refine J.condT rfl (decide_eq_true (by show u.1 < t.1; omega)) ?_
        refine J.seq ?_
        refine J.drawA [13] ?_
        first | refine JD.calc 0 (by kernel_rfl) rfl trivial ss_sub (q_mvv (v := .slice _ _ _) rfl) ?_ | refine JD.calc 0 (by kernel_rfl) rfl trivial ss_sub (q_mv) ?_
        first | refine JD.calc 1 (by kernel_rfl) rfl trivial ss_sub (q_mvv (v := .int _ _) rfl) ?_ | refine JD.calc 1 (by kernel_rfl) rfl trivial ss_sub (q_mv) ?_
        refine JD.calc 2 (by kernel_rfl) rfl trivial ss_sub (q_ia rfl rfl (by omega)) ?_
        refine JD.calc 3 (by kernel_rfl) rfl trivial ss_sub (q_fa rfl) ?_
        refine JD.load 4 (by kernel_rfl) rfl trivial (q_ldf rfl hcy0) ?_
        refine JD.load 5 (by kernel_rfl) rfl trivial (q_lda (vs := [_, _]) rfl inferInstance ⟨rfl, rfl, trivial⟩) ?_
        first | refine JD.calc 6 (by kernel_rfl) rfl trivial ss_sub (q_mvv (v := .slice _ _ _) rfl) ?_ | refine JD.calc 6 (by kernel_rfl) rfl trivial ss_sub (q_mv) ?_
        first | refine JD.calc 7 (by kernel_rfl) rfl trivial ss_sub (q_mvv (v := .int _ _) rfl) ?_ | refine JD.calc 7 (by kernel_rfl) rfl trivial ss_sub (q_mv) ?_
        refine JD.calc 8 (by kernel_rfl) rfl trivial ss_sub (q_ia rfl rfl (by omega)) ?_
        refine JD.calc 9 (by kernel_rfl) rfl trivial ss_sub (q_fa rfl) ?_
        refine JD.load 10 (by kernel_rfl) rfl trivial (q_ldfa rfl hcy1) ?_
        refine JD.one 11 (by kernel_rfl) ?_
        refine JX.eff rfl rfl trivial ?_
        refine o_call (mulr_fn ⟨_, rfl, hkm.mono⟩ ⟨_, rfl, hmy.mono⟩ (fit64 (by omega)) (fit64 (by omega))) (fun v19 h19 s19 hr19 => ?_)
        have hky := Nat.mul_le_mul (Nat.le_of_lt_succ hkk) (Nat.le_of_lt_succ fb)
        rw [← Int.natAbs_mul] at hky
        obtain ⟨pz, cz, rfl, hnz2, hmz⟩ := hr19.out
        refine JL.nil ⟨rfl, inferInstance, inferInstance, ?_⟩
        first | refine JD.calc 12 (by kernel_rfl) rfl trivial ss_sub (q_bd [.int _ _, .bool _, .slice _ _ _] rfl) ?_ | refine JD.calc 12 (by kernel_rfl) rfl trivial ss_sub (q_bd [_, _, _] rfl) ?_
        refine JD.one 13 (by kernel_rfl) ?_
        refine JX.mut rfl rfl trivial ?_
        refine o_stw (vs := [_, _, _]) rfl rfl rfl inferInstance rfl rfl ?_
        refine JL.nil ⟨rfl, ?_⟩
        refine JD.done (by kernel_rfl) ?_ _
        refine J.region ?_
        first | refine o_q (q_mvv (v := .int _ _) rfl) ?_ | refine o_q (q_mv) ?_
        refine o_q (q_add (c := ((j + 1 : Nat) : Int)) rfl rfl (by rw [wi64 (by omega)]; omega)) ?_
        first | refine o_q (q_asv (v := .int _ _) rfl) ?_ | refine o_q (q_as) ?_
        refine JL.nil ?_
        refine J.seq ?_
        refine J.region ?_
        refine o_q (q_fa rfl) ?_
        refine o_q (q_lda (vs := [_, _]) rfl inferInstance ⟨rfl, rfl, trivial⟩) ?_
        refine o_call (signr_fn ⟨_, rfl, hmz.mono⟩ (Nat.le_trans (fit64 (z := k * u.2) (by omega)) (by decide))) (fun v24 h24 s24 e24 => ?_)
        subst e24
        refine o_q (q_neq rfl rfl) ?_
        refine JL.nil ?_
        refine J.condD rfl (fun c9 => ?_) (fun c9 => ?_)
        ·
          have hnz := fun e => c9 ((sgn_zero (k * u.2)).2 e)
          refine J.region ?_
          first | refine o_q (q_mvv (v := .slice _ _ _) rfl) ?_ | refine o_q (q_mv) ?_
          refine o_q (q_lda (vs := [_, _, _]) rfl inferInstance ⟨rfl, rfl, rfl, trivial⟩) ?_
          first | refine o_bs [.int _ _, .bool _, .slice _ _ _] (by decide) rfl (fun b115 => ?_) | refine o_bs [_, _, _] (by decide) rfl (fun b115 => ?_)
          refine o_app (m := 1) rfl rfl ho inferInstance (src_own inferInstance (LookN.all _) rfl (by simp [plain])) (by omega) (fun v29 L29 ho29 => ?_)
          obtain ⟨p29, c29, rfl⟩ := ho29.out
          first | refine o_q (q_asv (v := .slice _ _ _) rfl) ?_ | refine o_q (q_as) ?_
          refine JL.nil ?_
          first
            | exact ⟨(i, j + 1, done ++ [(u.1, k * u.2)], _, p29, c29, L29), rfl, ⟨rfl, rfl, rfl, trivial⟩, ⟨(by rw [List.length_append] <;> rfl), rfl, rfl, trivial⟩, ⟨by omega, by omega, (by rw [List.length_append]; exact ho29), (by rw [show cr (done ++ [(u.1, k * u.2)]) = cr done ++ [tm (u.1, k * u.2)] by simp [cr]]; exact hcs.mono.snoc rfl ⟨_, _, rfl, hnz2, hmz.mono⟩), (by rw [hmg, hstep, keep_pos hnz, List.append_assoc]), (by simp only [List.length_append, List.length_singleton]; omega), (by repeat' first | exact List.Sublist.refl _ | apply List.Sublist.cons_cons | apply List.Sublist.append (List.Sublist.refl _) | apply List.Sublist.cons)⟩, by show a.length + b.length - ((i) + (j + 1)) < a.length + b.length - (i + j); omega, inferInstance⟩
            | exact ⟨(i, j + 1, done, xs, pv, cv, Lb), rfl, ⟨rfl, rfl, rfl, trivial⟩, ⟨rfl, rfl, rfl, trivial⟩, ⟨by omega, by omega, ho, hcs.mono, (by rw [hmg, hstep, keep_zero hnz, List.nil_append]), by omega, (by repeat' first | exact List.Sublist.refl _ | apply List.Sublist.cons_cons | apply List.Sublist.append (List.Sublist.refl _) | apply List.Sublist.cons)⟩, by show a.length + b.length - ((i) + (j + 1)) < a.length + b.length - (i + j); omega, inferInstance⟩
        ·
          have hnz := (sgn_zero (k * u.2)).1 (Classical.not_not.1 c9)
          refine J.skip ?_
          first
            | exact ⟨(i, j + 1, done ++ [(u.1, k * u.2)], _, p29, c29, L29), rfl, ⟨rfl, rfl, rfl, trivial⟩, ⟨(by rw [List.length_append] <;> rfl), rfl, rfl, trivial⟩, ⟨by omega, by omega, (by rw [List.length_append]; exact ho29), (by rw [show cr (done ++ [(u.1, k * u.2)]) = cr done ++ [tm (u.1, k * u.2)] by simp [cr]]; exact hcs.mono.snoc rfl ⟨_, _, rfl, hnz2, hmz.mono⟩), (by rw [hmg, hstep, keep_pos hnz, List.append_assoc]), (by simp only [List.length_append, List.length_singleton]; omega), (by repeat' first | exact List.Sublist.refl _ | apply List.Sublist.cons_cons | apply List.Sublist.append (List.Sublist.refl _) | apply List.Sublist.cons)⟩, by show a.length + b.length - ((i) + (j + 1)) < a.length + b.length - (i + j); omega, inferInstance⟩
            | exact ⟨(i, j + 1, done, xs, pv, cv, Lb), rfl, ⟨rfl, rfl, rfl, trivial⟩, ⟨rfl, rfl, rfl, trivial⟩, ⟨by omega, by omega, ho, hcs.mono, (by rw [hmg, hstep, keep_zero hnz, List.nil_append]), by omega, (by repeat' first | exact List.Sublist.refl _ | apply List.Sublist.cons_cons | apply List.Sublist.append (List.Sublist.refl _) | apply List.Sublist.cons)⟩, by show a.length + b.length - ((i) + (j + 1)) < a.length + b.length - (i + j); omega, inferInstance⟩
  ·
    rintro ⟨xs, pv, cv, Lb⟩ σ9 h9 L9 s9 ⟨ho, hcs, hsub⟩
    refine J.sub hsub ?_
    refine J.seq ?_
    refine J.fzS ho (fun h10 s10 hs10 => ?_)
    refine J.region ?_
    first | refine o_q (q_mvv (v := .slice _ _ _) rfl) ?_ | refine o_q (q_mv) ?_
    first | refine o_q (q_asv (v := .slice _ _ _) rfl) ?_ | refine o_q (q_as) ?_
    refine JL.nil ?_
    refine J.ret ?_
    exact ret_ok (fn := Try.f18) rfl (.tmp rfl .nil) (Sls.of hs10 hcs.mono (by simp))
end Go.Z
