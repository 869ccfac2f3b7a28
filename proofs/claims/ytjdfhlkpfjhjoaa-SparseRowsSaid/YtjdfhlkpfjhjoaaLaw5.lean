/- The law SparseRows, walked. -/
import Derived.Test.YtjdfhlkpfjhjoaaSp15
import Derived.Test.YtjdfhlkpfjhjoaaCoef
set_option linter.unusedSimpArgs false
set_option linter.unusedVariables false
namespace Go.Z
open Go Go.RowKit Go.Proofs
theorem lastcase (l : List RT) (cols : Int) : (0 < l.length ∧ ∃ t, l[l.length - 1]? = some t ∧ cols ≤ t.1) ∨ (l = [] ∨ ∃ t, l[l.length - 1]? = some t ∧ t.1 < cols) := by
  rcases Nat.eq_zero_or_pos l.length with h | h
  · exact .inr (.inl (List.eq_nil_of_length_eq_zero h))
  · obtain ⟨t, ht⟩ := lt_get (show l.length - 1 < l.length by omega)
    rcases (show cols ≤ t.1 ∨ t.1 < cols by omega) with h2 | h2
    · exact .inl ⟨h, t, ht, h2⟩
    · exact .inr (.inr ⟨t, ht, h2⟩)
theorem rowcase (i : Int) (rows : Nat) : (i < 0 ∨ (0 ≤ i ∧ (rows : Int) < i)) ∨ (∃ n : Nat, i = n ∧ n < rows) ∨ (∃ n : Nat, i = n ∧ n = rows) := by
  rcases (show i < 0 ∨ 0 ≤ i by omega) with h | h
  · exact .inl (.inl h)
  · rcases Nat.lt_trichotomy i.toNat rows with h2 | h2 | h2
    · exact .inr (.inl ⟨i.toNat, by omega, h2⟩)
    · exact .inr (.inr ⟨i.toNat, by omega, h2⟩)
    · exact .inl (.inr ⟨h, by omega⟩)
theorem fivecase (i : Int) (rows : Nat) (l : List RT) (cols : Int) : (i < 0 ∨ (0 ≤ i ∧ (rows : Int) < i)) ∨ (∃ n : Nat, i = n ∧ n < rows ∧ 0 < l.length ∧ ∃ t, l[l.length - 1]? = some t ∧ cols ≤ t.1) ∨ (∃ n : Nat, i = n ∧ n < rows ∧ (l = [] ∨ ∃ t, l[l.length - 1]? = some t ∧ t.1 < cols)) ∨
    (∃ n : Nat, i = n ∧ n = rows ∧ 0 < l.length ∧ ∃ t, l[l.length - 1]? = some t ∧ cols ≤ t.1) ∨ (∃ n : Nat, i = n ∧ n = rows ∧ (l = [] ∨ ∃ t, l[l.length - 1]? = some t ∧ t.1 < cols)) := by
  rcases rowcase i rows with h | ⟨n, h1, h2⟩ | ⟨n, h1, h2⟩ <;> rcases lastcase l cols with ⟨h3, h4⟩ | h3
  · exact .inl h
  · exact .inl h
  · exact .inr (.inl ⟨n, h1, h2, h3, h4⟩)
  · exact .inr (.inr (.inl ⟨n, h1, h2, h3⟩))
  · exact .inr (.inr (.inr (.inl ⟨n, h1, h2, h3, h4⟩)))
  · exact .inr (.inr (.inr (.inr ⟨n, h1, h2, h3⟩)))
theorem crs_ins (L : List (List (Int × Int))) (R : List (Int × Int)) (n : Nat) : (crs L).take n ++ [cr R] ++ (crs L).drop n = crs (L.take n ++ [R] ++ L.drop n) := by
  simp [crs, List.map_take, List.map_drop]
theorem crs_cut (L : List (List (Int × Int))) (n k : Nat) : cut1 n k (crs L) = crs (cut1 n k L) := by
  simp [cut1, crs, List.map_take, List.map_drop]
theorem cut_ins {α : Type} (L : List α) (R : α) {n : Nat} (h : n ≤ L.length) : cut1 n (L.take n ++ [R] ++ L.drop n).length (L.take n ++ [R] ++ L.drop n) = L := by
  have hl : (L.take n).length = n := by rw [List.length_take]; omega
  rw [cut1_all (by simp; omega)]
  rw [List.append_assoc, List.take_left' hl]
  have : (L.take n ++ ([R] ++ L.drop n)).drop (n + 1) = L.drop n := by
    rw [List.drop_append, hl]
    simp [List.drop_eq_nil_of_le, hl]
  rw [this, List.take_append_drop]
set_option maxHeartbeats 8000000 in
theorem law_rows {h : Heap} {v1 v2 : Value} {r0 c0 : Nat} {lx l : List Int} {i : Int} (hx0 : RawMat h v1 r0 c0 lx) (hr0 : r0 ≤ 255) (hc0 : c0 ≤ 255) (hl : BytesAt h v2 l) :
    Fn Try.prog 5 #[v1, v2, .int .i64 i] h fun r _ => r = .bool true := by
  obtain ⟨rows, erows⟩ : ∃ rows, rows = r0 % (4 + 1) := ⟨_, rfl⟩
  obtain ⟨cols, ecols⟩ : ∃ cols, cols = c0 % (4 + 1) := ⟨_, rfl⟩
  obtain ⟨L, eL⟩ : ∃ L, L = (matL lx rows cols).map sprow := ⟨_, rfl⟩
  obtain ⟨R, eR⟩ : ∃ R, R = sprow (vecL l 5) := ⟨_, rfl⟩
  have hrows : rows ≤ 4 := by omega
  have hcols : cols ≤ 4 := by omega
  have hLl : L.length = rows := by rw [eL, List.length_map, matL_len]
  have hLr : ∀ r ∈ L, r.length ≤ 4 := fun r hr => by
    rw [eL] at hr
    obtain ⟨w, hw, rfl⟩ := List.mem_map.1 hr
    have := sprow_len w
    have := (matL_row w hw).1
    omega
  have hLF : ∀ r ∈ L, ∀ t ∈ r, Fit t.2 := fun r hr t ht => by
    rw [eL] at hr
    obtain ⟨w, hw, rfl⟩ := List.mem_map.1 hr
    exact fit64 (by have := (matL_row w hw).2 _ (mem_sprow w t ht); omega)
  have hRl : R.length ≤ 5 := by have := sprow_len (vecL l 5); rw [vecL_len] at this; rw [eR]; exact this
  have hRF : ∀ t ∈ R, Fit t.2 := fun t ht => fit64 (by rw [eR] at ht; have := vecL_bnd l 5 _ (mem_sprow _ t ht); omega)
  have hcl : (cr R).length = R.length := List.length_map ..
  have hcL : (crs L).length = rows := by rw [List.length_map]; exact hLl
  obtain ⟨px, kx0, rfl, hxb⟩ := hx0
  refine Fn.intro (args := [_, _, _]) Try.func5 rfl rfl (Nat.le_of_ble_eq_true rfl) fun w => ?_
  refine J.seq ?_
  refine J.region ?_
  first | refine o_bx (v := .agg _) rfl rfl (fun b3 => ?_) | refine o_bx rfl rfl (fun b3 => ?_)
  refine o_q (q_as) ?_
  refine JL.nil ?_
  refine J.seq ?_
  refine J.region ?_
  refine o_call (sanity_fn) (fun v20 hv20 sv20 ev20 => ?_)
  subst ev20
  first | refine o_q (q_asv (v := .bool _) rfl) ?_ | refine o_q (q_as) ?_
  refine JL.nil ?_
  refine J.seq ?_
  refine J.region ?_
  refine o_q (q_lda (vs := [_, _, _]) rfl inferInstance ⟨rfl, rfl, rfl, trivial⟩) ?_
  refine o_call (rawmade_fn (n := 4) ⟨_, _, rfl, hxb.mono⟩ hr0 hc0 (by decide)) (fun v22 h22 s22 r22 => ?_)
  rw [← erows, ← ecols] at r22
  refine o_call (fromr_fn r22 (by rw [matL_len]) (by rw [matL_len]; omega) (fun r hr => by have := (matL_row r hr).1; omega) (fun r hr z hz => fit64 (by have := (matL_row r hr).2 z hz; omega))) (fun v23 h23 s23 r23 => ?_)
  rw [← eL] at r23
  obtain ⟨pS, cS, rfl, hS⟩ := r23
  refine o_al (fun b8 => ?_)
  refine o_stw (vs := [_, _, _]) rfl rfl rfl inferInstance rfl rfl ?_
  refine JL.nil ?_
  refine J.seq ?_
  refine J.region ?_
  first | refine o_q (q_mvv (v := .slice _ _ _) rfl) ?_ | refine o_q (q_mv) ?_
  refine o_call (vec_fn (n := 5) hl.mono (by decide)) (fun v25 h25 s25 r25 => ?_)
  refine o_call (row_fn r25 (by rw [vecL_len]; decide) (fun z hz => fit64 (by have := vecL_bnd l 5 z hz; omega))) (fun v26 h26 s26 rR => ?_)
  rw [← eR] at rR
  obtain ⟨pR, cR, rfl, _⟩ := rR.out
  first | refine o_q (q_asv (v := .slice _ _ _) rfl) ?_ | refine o_q (q_as) ?_
  refine JL.nil ?_
  refine J.seq ?_
  rcases fivecase i rows (cr R) cols with q1 | ⟨n, rfl, q2, hp, t, ht, qb⟩ | ⟨n, rfl, q2, qg⟩ | ⟨n, rfl, q2, hp, t, ht, qb⟩ | ⟨n, rfl, q2, qg⟩
  ·
    have qr : i < 0 ∨ (0 ≤ i ∧ (rows : Int) ≤ i) := by omega
    refine J.region ?_
    refine o_q (q_lda (vs := [_, _, _]) rfl inferInstance ⟨rfl, rfl, rfl, trivial⟩) ?_
    first | refine o_q (q_mvv (v := .int _ _) rfl) ?_ | refine o_q (q_mv) ?_
    first | refine o_q (q_mvv (v := .slice _ _ _) rfl) ?_ | refine o_q (q_mv) ?_
    refine o_call (insert_err1 q1) (fun v31 hv31 sv31 ev31 => ?_)
    subst ev31
    refine o_q (q_mv) ?_
    refine o_q (q_ex rfl rfl) ?_
    refine o_q (q_ex rfl rfl) ?_
    refine o_al (fun b10 => ?_)
    refine o_stw (vs := [_, _, _]) rfl rfl rfl inferInstance rfl rfl ?_
    first | refine o_q (q_asv (v := .int _ _) rfl) ?_ | refine o_q (q_as) ?_
    refine JL.nil ?_
    refine J.seq ?_
    refine J.region ?_
    refine o_q (q_lda (vs := [_, _, _]) rfl inferInstance ⟨rfl, rfl, rfl, trivial⟩) ?_
    first | refine o_q (q_mvv (v := .int _ _) rfl) ?_ | refine o_q (q_mv) ?_
    first | refine o_q (q_mvv (v := .slice _ _ _) rfl) ?_ | refine o_q (q_mv) ?_
    refine o_call (insertr_err1 q1) (fun v38 hv38 sv38 ev38 => ?_)
    subst ev38
    refine o_q (q_mv) ?_
    refine o_q (q_ex rfl rfl) ?_
    refine o_q (q_ex rfl rfl) ?_
    refine o_al (fun b12 => ?_)
    refine o_stw (vs := [_, _, _]) rfl rfl rfl inferInstance rfl rfl ?_
    first | refine o_q (q_asv (v := .int _ _) rfl) ?_ | refine o_q (q_as) ?_
    refine JL.nil ?_
    refine J.seq ?_
    refine J.region ?_
    refine o_q (q_lda (vs := [_, _, _]) rfl inferInstance ⟨rfl, rfl, rfl, trivial⟩) ?_
    first | refine o_q (q_mvv (v := .int _ _) rfl) ?_ | refine o_q (q_mv) ?_
    refine o_call (remove_err qr) (fun v44 hv44 sv44 ev44 => ?_)
    subst ev44
    refine o_q (q_mv) ?_
    refine o_q (q_ex rfl rfl) ?_
    refine o_q (q_ex rfl rfl) ?_
    refine o_al (fun b14 => ?_)
    refine o_stw (vs := [_, _, _]) rfl rfl rfl inferInstance rfl rfl ?_
    first | refine o_q (q_asv (v := .int _ _) rfl) ?_ | refine o_q (q_as) ?_
    refine JL.nil ?_
    refine J.seq ?_
    refine J.region ?_
    refine o_q (q_lda (vs := [_, _, _]) rfl inferInstance ⟨rfl, rfl, rfl, trivial⟩) ?_
    first | refine o_q (q_mvv (v := .int _ _) rfl) ?_ | refine o_q (q_mv) ?_
    refine o_call (remover_err qr) (fun v50 hv50 sv50 ev50 => ?_)
    subst ev50
    refine o_q (q_mv) ?_
    refine o_q (q_ex rfl rfl) ?_
    refine o_q (q_ex rfl rfl) ?_
    refine o_al (fun b16 => ?_)
    refine o_stw (vs := [_, _, _]) rfl rfl rfl inferInstance rfl rfl ?_
    first | refine o_q (q_asv (v := .int _ _) rfl) ?_ | refine o_q (q_as) ?_
    refine JL.nil ?_
    refine J.seq ?_
    refine J.seq ?_
    refine J.region ?_
    refine o_q (q_lda (vs := [_, _, _]) rfl inferInstance ⟨rfl, rfl, rfl, trivial⟩) ?_
    refine o_q (q_lda (vs := [_, _, _]) rfl inferInstance ⟨rfl, rfl, rfl, trivial⟩) ?_
    refine o_call (Fn.mono (R' := fun v _ => v = .bool true) (equals_fn (l := []) (m := []) ⟨none, 0, rfl, Sls.nil _⟩ ⟨none, 0, rfl, Sls.nil _⟩ (by decide) (by decide) (by decide) (by decide) (fun r hr => (by cases hr)) (fun r hr => (by cases hr))) (fun _ _ _ e => e.trans (congrArg Value.bool (decide_eq_true ⟨rfl, rfl, rfl⟩)))) (fun v55 h55 s55 e55 => ?_)
    subst e55
    refine o_q (q_not rfl) ?_
    first | refine o_q (q_mvv (v := .bool _) rfl) ?_ | refine o_q (q_mv) ?_
    refine JL.guardT rfl rfl rfl ?_
    first | refine o_q (q_mvv (v := .int _ _) rfl) ?_ | refine o_q (q_mv) ?_
    refine JL.guardT rfl rfl rfl ?_
    first | refine o_q (q_mvv (v := .int _ _) rfl) ?_ | refine o_q (q_mv) ?_
    refine JL.guardT rfl rfl rfl ?_
    refine o_q (q_neq rfl rfl) ?_
    first | refine o_q (q_pickFv (v := .bool _) rfl rfl rfl) ?_ | refine o_q (q_pickF rfl rfl) ?_
    first | refine o_q (q_mvv (v := .bool _) rfl) ?_ | refine o_q (q_mv) ?_
    refine JL.guardT rfl rfl (decide_eq_false (fun e => e rfl)) ?_
    refine o_q (q_lda (vs := [_, _, _]) rfl inferInstance ⟨rfl, rfl, rfl, trivial⟩) ?_
    refine JL.guardT rfl rfl (decide_eq_false (fun e => e rfl)) ?_
    refine o_q (q_lda (vs := [_, _, _]) rfl inferInstance ⟨rfl, rfl, rfl, trivial⟩) ?_
    refine JL.guardT rfl rfl (decide_eq_false (fun e => e rfl)) ?_
    refine o_call (Fn.mono (R' := fun v _ => v = .bool true) (equals_fn (l := []) (m := []) ⟨none, 0, rfl, Sls.nil _⟩ ⟨none, 0, rfl, Sls.nil _⟩ (by decide) (by decide) (by decide) (by decide) (fun r hr => (by cases hr)) (fun r hr => (by cases hr))) (fun _ _ _ e => e.trans (congrArg Value.bool (decide_eq_true ⟨rfl, rfl, rfl⟩)))) (fun v65 h65 s65 e65 => ?_)
    subst e65
    refine JL.guardT rfl rfl (decide_eq_false (fun e => e rfl)) ?_
    refine o_q (q_not rfl) ?_
    first | refine o_q (q_pickFv (v := .bool _) rfl (decide_eq_false (fun e => e rfl)) rfl) ?_ | refine o_q (q_pickF rfl (decide_eq_false (fun e => e rfl))) ?_
    first | refine o_q (q_mvv (v := .bool _) rfl) ?_ | refine o_q (q_mv) ?_
    refine JL.guardT rfl rfl rfl ?_
    first | refine o_q (q_mvv (v := .int _ _) rfl) ?_ | refine o_q (q_mv) ?_
    refine JL.guardT rfl rfl rfl ?_
    first | refine o_q (q_mvv (v := .int _ _) rfl) ?_ | refine o_q (q_mv) ?_
    refine JL.guardT rfl rfl rfl ?_
    refine o_q (q_neq rfl rfl) ?_
    first | refine o_q (q_pickFv (v := .bool _) rfl rfl rfl) ?_ | refine o_q (q_pickF rfl rfl) ?_
    refine JL.nil ?_
    refine J.condF rfl (decide_eq_false (fun e => e rfl)) ?_
    refine J.skip ?_
    refine J.seq ?_
    refine J.seq ?_
    refine J.region ?_
    first | refine o_q (q_mvv (v := .int _ _) rfl) ?_ | refine o_q (q_mv) ?_
    refine o_q (q_neq rfl rfl) ?_
    refine JL.nil ?_
    refine J.condT rfl (decide_eq_true (by decide)) ?_
    refine J.seq ?_
    refine J.region ?_
    first | refine o_q (q_mvv (v := .bool _) rfl) ?_ | refine o_q (q_mv) ?_
    first | refine o_q (q_asv (v := .bool _) rfl) ?_ | refine o_q (q_as) ?_
    refine JL.nil ?_
    refine J.ret ?_
    exact ret_ok (fn := Try.f5) rfl (.tmp rfl .nil) rfl
  ·
    have cm : ∀ r, r ∈ cut1 n rows L → r ∈ L := fun r hr => by
      unfold cut1 at hr
      rcases List.mem_append.1 hr with h | h
      · exact List.mem_of_mem_take h
      · exact List.mem_of_mem_take (List.mem_of_mem_drop h)
    have Cn : (cut1 n rows L).length ≤ 1000000 := by have := cut1_len n rows L; omega
    have Cr : ∀ r ∈ cut1 n rows L, r.length ≤ 1000000 := fun r hr => by have := hLr r (cm r hr); omega
    have Cf : ∀ r ∈ cut1 n rows L, ∀ t ∈ r, Fit t.2 := fun r hr => hLF r (cm r hr)
    refine J.region ?_
    refine o_q (q_lda (vs := [_, _, _]) rfl inferInstance ⟨rfl, rfl, rfl, trivial⟩) ?_
    first | refine o_q (q_mvv (v := .int _ _) rfl) ?_ | refine o_q (q_mv) ?_
    first | refine o_q (q_mvv (v := .slice _ _ _) rfl) ?_ | refine o_q (q_mv) ?_
    refine o_call (insert_err2 rR.mono ⟨by omega, by omega⟩ (by omega) (by omega) ht qb) (fun v31 hv31 sv31 ev31 => ?_)
    subst ev31
    refine o_q (q_mv) ?_
    refine o_q (q_ex rfl rfl) ?_
    refine o_q (q_ex rfl rfl) ?_
    refine o_al (fun b10 => ?_)
    refine o_stw (vs := [_, _, _]) rfl rfl rfl inferInstance rfl rfl ?_
    first | refine o_q (q_asv (v := .int _ _) rfl) ?_ | refine o_q (q_as) ?_
    refine JL.nil ?_
    refine J.seq ?_
    refine J.region ?_
    refine o_q (q_lda (vs := [_, _, _]) rfl inferInstance ⟨rfl, rfl, rfl, trivial⟩) ?_
    first | refine o_q (q_mvv (v := .int _ _) rfl) ?_ | refine o_q (q_mv) ?_
    first | refine o_q (q_mvv (v := .slice _ _ _) rfl) ?_ | refine o_q (q_mv) ?_
    refine o_call (insertr_err2 rR.mono ⟨by omega, by omega⟩ (by omega) (by omega) ht qb) (fun v38 hv38 sv38 ev38 => ?_)
    subst ev38
    refine o_q (q_mv) ?_
    refine o_q (q_ex rfl rfl) ?_
    refine o_q (q_ex rfl rfl) ?_
    refine o_al (fun b12 => ?_)
    refine o_stw (vs := [_, _, _]) rfl rfl rfl inferInstance rfl rfl ?_
    first | refine o_q (q_asv (v := .int _ _) rfl) ?_ | refine o_q (q_as) ?_
    refine JL.nil ?_
    refine J.seq ?_
    refine J.region ?_
    refine o_q (q_lda (vs := [_, _, _]) rfl inferInstance ⟨rfl, rfl, rfl, trivial⟩) ?_
    first | refine o_q (q_mvv (v := .int _ _) rfl) ?_ | refine o_q (q_mv) ?_
    refine o_call (remove_ok (i := n) ⟨_, _, rfl, hS.mono⟩ (by rw [hcL]) (by omega) (by omega)) (fun v44 h44 s44 r44 => ?_)
    rw [hcL, crs_cut] at r44
    obtain ⟨w44, rfl, p44, c44, rfl, i44⟩ := r44
    refine o_q (q_mv) ?_
    refine o_q (q_ex rfl rfl) ?_
    refine o_q (q_ex rfl rfl) ?_
    refine o_al (fun b14 => ?_)
    refine o_stw (vs := [_, _, _]) rfl rfl rfl inferInstance rfl rfl ?_
    first | refine o_q (q_asv (v := .int _ _) rfl) ?_ | refine o_q (q_as) ?_
    refine JL.nil ?_
    refine J.seq ?_
    refine J.region ?_
    refine o_q (q_lda (vs := [_, _, _]) rfl inferInstance ⟨rfl, rfl, rfl, trivial⟩) ?_
    first | refine o_q (q_mvv (v := .int _ _) rfl) ?_ | refine o_q (q_mv) ?_
    refine o_call (remover_ok (i := n) ⟨_, _, rfl, hS.mono⟩ (by rw [hcL]) (by omega) (by omega)) (fun v50 h50 s50 r50 => ?_)
    rw [hcL, crs_cut] at r50
    obtain ⟨w50, rfl, p50, c50, rfl, i50⟩ := r50
    refine o_q (q_mv) ?_
    refine o_q (q_ex rfl rfl) ?_
    refine o_q (q_ex rfl rfl) ?_
    refine o_al (fun b16 => ?_)
    refine o_stw (vs := [_, _, _]) rfl rfl rfl inferInstance rfl rfl ?_
    first | refine o_q (q_asv (v := .int _ _) rfl) ?_ | refine o_q (q_as) ?_
    refine JL.nil ?_
    refine J.seq ?_
    refine J.seq ?_
    refine J.region ?_
    refine o_q (q_lda (vs := [_, _, _]) rfl inferInstance ⟨rfl, rfl, rfl, trivial⟩) ?_
    refine o_q (q_lda (vs := [_, _, _]) rfl inferInstance ⟨rfl, rfl, rfl, trivial⟩) ?_
    refine o_call (Fn.mono (R' := fun v _ => v = .bool true) (equals_fn (l := []) (m := []) ⟨none, 0, rfl, Sls.nil _⟩ ⟨none, 0, rfl, Sls.nil _⟩ (by decide) (by decide) (by decide) (by decide) (fun r hr => (by cases hr)) (fun r hr => (by cases hr))) (fun _ _ _ e => e.trans (congrArg Value.bool (decide_eq_true ⟨rfl, rfl, rfl⟩)))) (fun v55 h55 s55 e55 => ?_)
    subst e55
    refine o_q (q_not rfl) ?_
    first | refine o_q (q_mvv (v := .bool _) rfl) ?_ | refine o_q (q_mv) ?_
    refine JL.guardT rfl rfl rfl ?_
    first | refine o_q (q_mvv (v := .int _ _) rfl) ?_ | refine o_q (q_mv) ?_
    refine JL.guardT rfl rfl rfl ?_
    first | refine o_q (q_mvv (v := .int _ _) rfl) ?_ | refine o_q (q_mv) ?_
    refine JL.guardT rfl rfl rfl ?_
    refine o_q (q_neq rfl rfl) ?_
    first | refine o_q (q_pickFv (v := .bool _) rfl rfl rfl) ?_ | refine o_q (q_pickF rfl rfl) ?_
    first | refine o_q (q_mvv (v := .bool _) rfl) ?_ | refine o_q (q_mv) ?_
    refine JL.guardT rfl rfl (decide_eq_false (fun e => e rfl)) ?_
    refine o_q (q_lda (vs := [_, _, _]) rfl inferInstance ⟨rfl, rfl, rfl, trivial⟩) ?_
    refine JL.guardT rfl rfl (decide_eq_false (fun e => e rfl)) ?_
    refine o_q (q_lda (vs := [_, _, _]) rfl inferInstance ⟨rfl, rfl, rfl, trivial⟩) ?_
    refine JL.guardT rfl rfl (decide_eq_false (fun e => e rfl)) ?_
    refine o_call (Fn.mono (R' := fun v _ => v = .bool true) (equals_fn (l := cut1 n rows L) (m := cut1 n rows L) ⟨_, _, rfl, i44.mono⟩ ⟨_, _, rfl, i50.mono⟩ Cn Cn Cr Cr Cf Cf) (fun _ _ _ e => e.trans (congrArg Value.bool (decide_eq_true ⟨rfl, rfl, rfl⟩)))) (fun v65 h65 s65 e65 => ?_)
    subst e65
    refine JL.guardT rfl rfl (decide_eq_false (fun e => e rfl)) ?_
    refine o_q (q_not rfl) ?_
    first | refine o_q (q_pickFv (v := .bool _) rfl (decide_eq_false (fun e => e rfl)) rfl) ?_ | refine o_q (q_pickF rfl (decide_eq_false (fun e => e rfl))) ?_
    first | refine o_q (q_mvv (v := .bool _) rfl) ?_ | refine o_q (q_mv) ?_
    refine JL.guardT rfl rfl rfl ?_
    first | refine o_q (q_mvv (v := .int _ _) rfl) ?_ | refine o_q (q_mv) ?_
    refine JL.guardT rfl rfl rfl ?_
    first | refine o_q (q_mvv (v := .int _ _) rfl) ?_ | refine o_q (q_mv) ?_
    refine JL.guardT rfl rfl rfl ?_
    refine o_q (q_neq rfl rfl) ?_
    first | refine o_q (q_pickFv (v := .bool _) rfl rfl rfl) ?_ | refine o_q (q_pickF rfl rfl) ?_
    refine JL.nil ?_
    refine J.condF rfl (decide_eq_false (fun e => e rfl)) ?_
    refine J.skip ?_
    refine J.seq ?_
    refine J.seq ?_
    refine J.region ?_
    first | refine o_q (q_mvv (v := .int _ _) rfl) ?_ | refine o_q (q_mv) ?_
    refine o_q (q_neq rfl rfl) ?_
    refine JL.nil ?_
    refine J.condT rfl (decide_eq_true (by decide)) ?_
    refine J.seq ?_
    refine J.region ?_
    first | refine o_q (q_mvv (v := .bool _) rfl) ?_ | refine o_q (q_mv) ?_
    first | refine o_q (q_asv (v := .bool _) rfl) ?_ | refine o_q (q_as) ?_
    refine JL.nil ?_
    refine J.ret ?_
    exact ret_ok (fn := Try.f5) rfl (.tmp rfl .nil) rfl
  ·
    have cm : ∀ r, r ∈ cut1 n rows L → r ∈ L := fun r hr => by
      unfold cut1 at hr
      rcases List.mem_append.1 hr with h | h
      · exact List.mem_of_mem_take h
      · exact List.mem_of_mem_take (List.mem_of_mem_drop h)
    have Cn : (cut1 n rows L).length ≤ 1000000 := by have := cut1_len n rows L; omega
    have Cr : ∀ r ∈ cut1 n rows L, r.length ≤ 1000000 := fun r hr => by have := hLr r (cm r hr); omega
    have Cf : ∀ r ∈ cut1 n rows L, ∀ t ∈ r, Fit t.2 := fun r hr => hLF r (cm r hr)
    have In : (L.take n ++ [R] ++ L.drop n).length ≤ 1000000 := by simp; omega
    have Ir : ∀ r ∈ L.take n ++ [R] ++ L.drop n, r.length ≤ 1000000 := fun r hr => by
      simp at hr
      rcases hr with h | rfl | h
      · have := hLr r (List.mem_of_mem_take h); omega
      · omega
      · have := hLr r (List.mem_of_mem_drop h); omega
    have If : ∀ r ∈ L.take n ++ [R] ++ L.drop n, ∀ t ∈ r, Fit t.2 := fun r hr t ht => by
      simp at hr
      rcases hr with h | rfl | h
      · exact hLF r (List.mem_of_mem_take h) t ht
      · exact hRF t ht
      · exact hLF r (List.mem_of_mem_drop h) t ht
    have Ln : L.length ≤ 1000000 := by omega
    have Lr : ∀ r ∈ L, r.length ≤ 1000000 := fun r hr => by have := hLr r hr; omega
    refine J.region ?_
    refine o_q (q_lda (vs := [_, _, _]) rfl inferInstance ⟨rfl, rfl, rfl, trivial⟩) ?_
    first | refine o_q (q_mvv (v := .int _ _) rfl) ?_ | refine o_q (q_mv) ?_
    first | refine o_q (q_mvv (v := .slice _ _ _) rfl) ?_ | refine o_q (q_mv) ?_
    refine o_call (insert_ok (i := n) ⟨_, _, rfl, hS.mono⟩ (by rw [hcL]) (by omega) rR.mono (by omega) (by omega) qg) (fun v31 h31 s31 r31 => ?_)
    rw [crs_ins] at r31
    obtain ⟨w31, rfl, p31, c31, rfl, i31⟩ := r31
    refine o_q (q_mv) ?_
    refine o_q (q_ex rfl rfl) ?_
    refine o_q (q_ex rfl rfl) ?_
    refine o_al (fun b10 => ?_)
    refine o_stw (vs := [_, _, _]) rfl rfl rfl inferInstance rfl rfl ?_
    first | refine o_q (q_asv (v := .int _ _) rfl) ?_ | refine o_q (q_as) ?_
    refine JL.nil ?_
    refine J.seq ?_
    refine J.region ?_
    refine o_q (q_lda (vs := [_, _, _]) rfl inferInstance ⟨rfl, rfl, rfl, trivial⟩) ?_
    first | refine o_q (q_mvv (v := .int _ _) rfl) ?_ | refine o_q (q_mv) ?_
    first | refine o_q (q_mvv (v := .slice _ _ _) rfl) ?_ | refine o_q (q_mv) ?_
    refine o_call (insertr_ok (i := n) ⟨_, _, rfl, hS.mono⟩ (by rw [hcL]) (by omega) rR.mono (by omega) (by omega) qg) (fun v38 h38 s38 r38 => ?_)
    rw [crs_ins] at r38
    obtain ⟨w38, rfl, p38, c38, rfl, i38⟩ := r38
    refine o_q (q_mv) ?_
    refine o_q (q_ex rfl rfl) ?_
    refine o_q (q_ex rfl rfl) ?_
    refine o_al (fun b12 => ?_)
    refine o_stw (vs := [_, _, _]) rfl rfl rfl inferInstance rfl rfl ?_
    first | refine o_q (q_asv (v := .int _ _) rfl) ?_ | refine o_q (q_as) ?_
    refine JL.nil ?_
    refine J.seq ?_
    refine J.region ?_
    refine o_q (q_lda (vs := [_, _, _]) rfl inferInstance ⟨rfl, rfl, rfl, trivial⟩) ?_
    first | refine o_q (q_mvv (v := .int _ _) rfl) ?_ | refine o_q (q_mv) ?_
    refine o_call (remove_ok (i := n) ⟨_, _, rfl, hS.mono⟩ (by rw [hcL]) (by omega) (by omega)) (fun v44 h44 s44 r44 => ?_)
    rw [hcL, crs_cut] at r44
    obtain ⟨w44, rfl, p44, c44, rfl, i44⟩ := r44
    refine o_q (q_mv) ?_
    refine o_q (q_ex rfl rfl) ?_
    refine o_q (q_ex rfl rfl) ?_
    refine o_al (fun b14 => ?_)
    refine o_stw (vs := [_, _, _]) rfl rfl rfl inferInstance rfl rfl ?_
    first | refine o_q (q_asv (v := .int _ _) rfl) ?_ | refine o_q (q_as) ?_
    refine JL.nil ?_
    refine J.seq ?_
    refine J.region ?_
    refine o_q (q_lda (vs := [_, _, _]) rfl inferInstance ⟨rfl, rfl, rfl, trivial⟩) ?_
    first | refine o_q (q_mvv (v := .int _ _) rfl) ?_ | refine o_q (q_mv) ?_
    refine o_call (remover_ok (i := n) ⟨_, _, rfl, hS.mono⟩ (by rw [hcL]) (by omega) (by omega)) (fun v50 h50 s50 r50 => ?_)
    rw [hcL, crs_cut] at r50
    obtain ⟨w50, rfl, p50, c50, rfl, i50⟩ := r50
    refine o_q (q_mv) ?_
    refine o_q (q_ex rfl rfl) ?_
    refine o_q (q_ex rfl rfl) ?_
    refine o_al (fun b16 => ?_)
    refine o_stw (vs := [_, _, _]) rfl rfl rfl inferInstance rfl rfl ?_
    first | refine o_q (q_asv (v := .int _ _) rfl) ?_ | refine o_q (q_as) ?_
    refine JL.nil ?_
    refine J.seq ?_
    refine J.seq ?_
    refine J.region ?_
    refine o_q (q_lda (vs := [_, _, _]) rfl inferInstance ⟨rfl, rfl, rfl, trivial⟩) ?_
    refine o_q (q_lda (vs := [_, _, _]) rfl inferInstance ⟨rfl, rfl, rfl, trivial⟩) ?_
    refine o_call (Fn.mono (R' := fun v _ => v = .bool true) (equals_fn (l := (L.take n ++ [R] ++ L.drop n)) (m := (L.take n ++ [R] ++ L.drop n)) ⟨_, _, rfl, i31.mono⟩ ⟨_, _, rfl, i38.mono⟩ In In Ir Ir If If) (fun _ _ _ e => e.trans (congrArg Value.bool (decide_eq_true ⟨rfl, rfl, rfl⟩)))) (fun v55 h55 s55 e55 => ?_)
    subst e55
    refine o_q (q_not rfl) ?_
    first | refine o_q (q_mvv (v := .bool _) rfl) ?_ | refine o_q (q_mv) ?_
    refine JL.guardT rfl rfl rfl ?_
    first | refine o_q (q_mvv (v := .int _ _) rfl) ?_ | refine o_q (q_mv) ?_
    refine JL.guardT rfl rfl rfl ?_
    first | refine o_q (q_mvv (v := .int _ _) rfl) ?_ | refine o_q (q_mv) ?_
    refine JL.guardT rfl rfl rfl ?_
    refine o_q (q_neq rfl rfl) ?_
    first | refine o_q (q_pickFv (v := .bool _) rfl rfl rfl) ?_ | refine o_q (q_pickF rfl rfl) ?_
    first | refine o_q (q_mvv (v := .bool _) rfl) ?_ | refine o_q (q_mv) ?_
    refine JL.guardT rfl rfl (decide_eq_false (fun e => e rfl)) ?_
    refine o_q (q_lda (vs := [_, _, _]) rfl inferInstance ⟨rfl, rfl, rfl, trivial⟩) ?_
    refine JL.guardT rfl rfl (decide_eq_false (fun e => e rfl)) ?_
    refine o_q (q_lda (vs := [_, _, _]) rfl inferInstance ⟨rfl, rfl, rfl, trivial⟩) ?_
    refine JL.guardT rfl rfl (decide_eq_false (fun e => e rfl)) ?_
    refine o_call (Fn.mono (R' := fun v _ => v = .bool true) (equals_fn (l := cut1 n rows L) (m := cut1 n rows L) ⟨_, _, rfl, i44.mono⟩ ⟨_, _, rfl, i50.mono⟩ Cn Cn Cr Cr Cf Cf) (fun _ _ _ e => e.trans (congrArg Value.bool (decide_eq_true ⟨rfl, rfl, rfl⟩)))) (fun v65 h65 s65 e65 => ?_)
    subst e65
    refine JL.guardT rfl rfl (decide_eq_false (fun e => e rfl)) ?_
    refine o_q (q_not rfl) ?_
    first | refine o_q (q_pickFv (v := .bool _) rfl (decide_eq_false (fun e => e rfl)) rfl) ?_ | refine o_q (q_pickF rfl (decide_eq_false (fun e => e rfl))) ?_
    first | refine o_q (q_mvv (v := .bool _) rfl) ?_ | refine o_q (q_mv) ?_
    refine JL.guardT rfl rfl rfl ?_
    first | refine o_q (q_mvv (v := .int _ _) rfl) ?_ | refine o_q (q_mv) ?_
    refine JL.guardT rfl rfl rfl ?_
    first | refine o_q (q_mvv (v := .int _ _) rfl) ?_ | refine o_q (q_mv) ?_
    refine JL.guardT rfl rfl rfl ?_
    refine o_q (q_neq rfl rfl) ?_
    first | refine o_q (q_pickFv (v := .bool _) rfl rfl rfl) ?_ | refine o_q (q_pickF rfl rfl) ?_
    refine JL.nil ?_
    refine J.condF rfl (decide_eq_false (fun e => e rfl)) ?_
    refine J.skip ?_
    refine J.seq ?_
    refine J.seq ?_
    refine J.region ?_
    first | refine o_q (q_mvv (v := .int _ _) rfl) ?_ | refine o_q (q_mv) ?_
    refine o_q (q_neq rfl rfl) ?_
    refine JL.nil ?_
    refine J.condF rfl (decide_eq_false (by decide)) ?_
    refine J.skip ?_
    refine J.seq ?_
    refine J.region ?_
    refine o_q (q_lda (vs := [_, _, _]) rfl inferInstance ⟨rfl, rfl, rfl, trivial⟩) ?_
    first | refine o_q (q_mvv (v := .int _ _) rfl) ?_ | refine o_q (q_mv) ?_
    have hMl : (crs (L.take n ++ [R] ++ L.drop n)).length = rows + 1 := by simp; omega
    refine o_call (remove_ok (i := n) (L := crs (L.take n ++ [R] ++ L.drop n)) ⟨_, _, rfl, i38.mono⟩ (by rw [hMl]; rfl) (by omega) (by omega)) (fun v79 h79 s79 r79 => ?_)
    rw [crs_cut, show (crs (L.take n ++ [R] ++ L.drop n)).length = (L.take n ++ [R] ++ L.drop n).length from List.length_map .., cut_ins L R (by omega), Int.add_sub_cancel] at r79
    obtain ⟨w79, rfl, p79, c79, rfl, i79⟩ := r79
    refine o_q (q_mv) ?_
    refine o_q (q_ex rfl rfl) ?_
    refine o_q (q_ex rfl rfl) ?_
    refine o_al (fun b18 => ?_)
    refine o_stw (vs := [_, _, _]) rfl rfl rfl inferInstance rfl rfl ?_
    first | refine o_q (q_asv (v := .int _ _) rfl) ?_ | refine o_q (q_as) ?_
    refine JL.nil ?_
    refine J.seq ?_
    refine J.region ?_
    first | refine o_q (q_mvv (v := .bool _) rfl) ?_ | refine o_q (q_mv) ?_
    first | refine o_q (q_mvv (v := .bool _) rfl) ?_ | refine o_q (q_mv) ?_
    refine JL.guardT rfl rfl rfl ?_
    first | refine o_q (q_mvv (v := .int _ _) rfl) ?_ | refine o_q (q_mv) ?_
    refine JL.guardT rfl rfl rfl ?_
    refine o_q (q_eql rfl rfl) ?_
    first | refine o_q (q_pickTv (v := .bool _) rfl rfl rfl) ?_ | refine o_q (q_pickT rfl rfl) ?_
    first | refine o_q (q_mvv (v := .bool _) rfl) ?_ | refine o_q (q_mv) ?_
    refine JL.guardT rfl rfl (decide_eq_true rfl) ?_
    refine o_q (q_lda (vs := [_, _, _]) rfl inferInstance ⟨rfl, rfl, rfl, trivial⟩) ?_
    refine JL.guardT rfl rfl (decide_eq_true rfl) ?_
    refine o_q (q_lda (vs := [_, _, _]) rfl inferInstance ⟨rfl, rfl, rfl, trivial⟩) ?_
    refine JL.guardT rfl rfl (decide_eq_true rfl) ?_
    refine o_call (Fn.mono (R' := fun v _ => v = .bool true) (equals_fn (l := L) (m := L) ⟨_, _, rfl, i79.mono⟩ ⟨_, _, rfl, hS.mono⟩ Ln Ln Lr Lr hLF hLF) (fun _ _ _ e => e.trans (congrArg Value.bool (decide_eq_true ⟨rfl, rfl, rfl⟩)))) (fun v90 h90 s90 e90 => ?_)
    subst e90
    first | refine o_q (q_pickTv (v := .bool _) rfl (decide_eq_true rfl) rfl) ?_ | refine o_q (q_pickT rfl (decide_eq_true rfl)) ?_
    first | refine o_q (q_asv (v := .bool _) rfl) ?_ | refine o_q (q_as) ?_
    refine JL.nil ?_
    refine J.ret ?_
    exact ret_ok (fn := Try.f5) rfl (.tmp rfl .nil) rfl
  ·
    have qr : (n : Int) < 0 ∨ (0 ≤ (n : Int) ∧ (rows : Int) ≤ (n : Int)) := by omega
    refine J.region ?_
    refine o_q (q_lda (vs := [_, _, _]) rfl inferInstance ⟨rfl, rfl, rfl, trivial⟩) ?_
    first | refine o_q (q_mvv (v := .int _ _) rfl) ?_ | refine o_q (q_mv) ?_
    first | refine o_q (q_mvv (v := .slice _ _ _) rfl) ?_ | refine o_q (q_mv) ?_
    refine o_call (insert_err2 rR.mono ⟨by omega, by omega⟩ (by omega) (by omega) ht qb) (fun v31 hv31 sv31 ev31 => ?_)
    subst ev31
    refine o_q (q_mv) ?_
    refine o_q (q_ex rfl rfl) ?_
    refine o_q (q_ex rfl rfl) ?_
    refine o_al (fun b10 => ?_)
    refine o_stw (vs := [_, _, _]) rfl rfl rfl inferInstance rfl rfl ?_
    first | refine o_q (q_asv (v := .int _ _) rfl) ?_ | refine o_q (q_as) ?_
    refine JL.nil ?_
    refine J.seq ?_
    refine J.region ?_
    refine o_q (q_lda (vs := [_, _, _]) rfl inferInstance ⟨rfl, rfl, rfl, trivial⟩) ?_
    first | refine o_q (q_mvv (v := .int _ _) rfl) ?_ | refine o_q (q_mv) ?_
    first | refine o_q (q_mvv (v := .slice _ _ _) rfl) ?_ | refine o_q (q_mv) ?_
    refine o_call (insertr_err2 rR.mono ⟨by omega, by omega⟩ (by omega) (by omega) ht qb) (fun v38 hv38 sv38 ev38 => ?_)
    subst ev38
    refine o_q (q_mv) ?_
    refine o_q (q_ex rfl rfl) ?_
    refine o_q (q_ex rfl rfl) ?_
    refine o_al (fun b12 => ?_)
    refine o_stw (vs := [_, _, _]) rfl rfl rfl inferInstance rfl rfl ?_
    first | refine o_q (q_asv (v := .int _ _) rfl) ?_ | refine o_q (q_as) ?_
    refine JL.nil ?_
    refine J.seq ?_
    refine J.region ?_
    refine o_q (q_lda (vs := [_, _, _]) rfl inferInstance ⟨rfl, rfl, rfl, trivial⟩) ?_
    first | refine o_q (q_mvv (v := .int _ _) rfl) ?_ | refine o_q (q_mv) ?_
    refine o_call (remove_err qr) (fun v44 hv44 sv44 ev44 => ?_)
    subst ev44
    refine o_q (q_mv) ?_
    refine o_q (q_ex rfl rfl) ?_
    refine o_q (q_ex rfl rfl) ?_
    refine o_al (fun b14 => ?_)
    refine o_stw (vs := [_, _, _]) rfl rfl rfl inferInstance rfl rfl ?_
    first | refine o_q (q_asv (v := .int _ _) rfl) ?_ | refine o_q (q_as) ?_
    refine JL.nil ?_
    refine J.seq ?_
    refine J.region ?_
    refine o_q (q_lda (vs := [_, _, _]) rfl inferInstance ⟨rfl, rfl, rfl, trivial⟩) ?_
    first | refine o_q (q_mvv (v := .int _ _) rfl) ?_ | refine o_q (q_mv) ?_
    refine o_call (remover_err qr) (fun v50 hv50 sv50 ev50 => ?_)
    subst ev50
    refine o_q (q_mv) ?_
    refine o_q (q_ex rfl rfl) ?_
    refine o_q (q_ex rfl rfl) ?_
    refine o_al (fun b16 => ?_)
    refine o_stw (vs := [_, _, _]) rfl rfl rfl inferInstance rfl rfl ?_
    first | refine o_q (q_asv (v := .int _ _) rfl) ?_ | refine o_q (q_as) ?_
    refine JL.nil ?_
    refine J.seq ?_
    refine J.seq ?_
    refine J.region ?_
    refine o_q (q_lda (vs := [_, _, _]) rfl inferInstance ⟨rfl, rfl, rfl, trivial⟩) ?_
    refine o_q (q_lda (vs := [_, _, _]) rfl inferInstance ⟨rfl, rfl, rfl, trivial⟩) ?_
    refine o_call (Fn.mono (R' := fun v _ => v = .bool true) (equals_fn (l := []) (m := []) ⟨none, 0, rfl, Sls.nil _⟩ ⟨none, 0, rfl, Sls.nil _⟩ (by decide) (by decide) (by decide) (by decide) (fun r hr => (by cases hr)) (fun r hr => (by cases hr))) (fun _ _ _ e => e.trans (congrArg Value.bool (decide_eq_true ⟨rfl, rfl, rfl⟩)))) (fun v55 h55 s55 e55 => ?_)
    subst e55
    refine o_q (q_not rfl) ?_
    first | refine o_q (q_mvv (v := .bool _) rfl) ?_ | refine o_q (q_mv) ?_
    refine JL.guardT rfl rfl rfl ?_
    first | refine o_q (q_mvv (v := .int _ _) rfl) ?_ | refine o_q (q_mv) ?_
    refine JL.guardT rfl rfl rfl ?_
    first | refine o_q (q_mvv (v := .int _ _) rfl) ?_ | refine o_q (q_mv) ?_
    refine JL.guardT rfl rfl rfl ?_
    refine o_q (q_neq rfl rfl) ?_
    first | refine o_q (q_pickFv (v := .bool _) rfl rfl rfl) ?_ | refine o_q (q_pickF rfl rfl) ?_
    first | refine o_q (q_mvv (v := .bool _) rfl) ?_ | refine o_q (q_mv) ?_
    refine JL.guardT rfl rfl (decide_eq_false (fun e => e rfl)) ?_
    refine o_q (q_lda (vs := [_, _, _]) rfl inferInstance ⟨rfl, rfl, rfl, trivial⟩) ?_
    refine JL.guardT rfl rfl (decide_eq_false (fun e => e rfl)) ?_
    refine o_q (q_lda (vs := [_, _, _]) rfl inferInstance ⟨rfl, rfl, rfl, trivial⟩) ?_
    refine JL.guardT rfl rfl (decide_eq_false (fun e => e rfl)) ?_
    refine o_call (Fn.mono (R' := fun v _ => v = .bool true) (equals_fn (l := []) (m := []) ⟨none, 0, rfl, Sls.nil _⟩ ⟨none, 0, rfl, Sls.nil _⟩ (by decide) (by decide) (by decide) (by decide) (fun r hr => (by cases hr)) (fun r hr => (by cases hr))) (fun _ _ _ e => e.trans (congrArg Value.bool (decide_eq_true ⟨rfl, rfl, rfl⟩)))) (fun v65 h65 s65 e65 => ?_)
    subst e65
    refine JL.guardT rfl rfl (decide_eq_false (fun e => e rfl)) ?_
    refine o_q (q_not rfl) ?_
    first | refine o_q (q_pickFv (v := .bool _) rfl (decide_eq_false (fun e => e rfl)) rfl) ?_ | refine o_q (q_pickF rfl (decide_eq_false (fun e => e rfl))) ?_
    first | refine o_q (q_mvv (v := .bool _) rfl) ?_ | refine o_q (q_mv) ?_
    refine JL.guardT rfl rfl rfl ?_
    first | refine o_q (q_mvv (v := .int _ _) rfl) ?_ | refine o_q (q_mv) ?_
    refine JL.guardT rfl rfl rfl ?_
    first | refine o_q (q_mvv (v := .int _ _) rfl) ?_ | refine o_q (q_mv) ?_
    refine JL.guardT rfl rfl rfl ?_
    refine o_q (q_neq rfl rfl) ?_
    first | refine o_q (q_pickFv (v := .bool _) rfl rfl rfl) ?_ | refine o_q (q_pickF rfl rfl) ?_
    refine JL.nil ?_
    refine J.condF rfl (decide_eq_false (fun e => e rfl)) ?_
    refine J.skip ?_
    refine J.seq ?_
    refine J.seq ?_
    refine J.region ?_
    first | refine o_q (q_mvv (v := .int _ _) rfl) ?_ | refine o_q (q_mv) ?_
    refine o_q (q_neq rfl rfl) ?_
    refine JL.nil ?_
    refine J.condT rfl (decide_eq_true (by decide)) ?_
    refine J.seq ?_
    refine J.region ?_
    first | refine o_q (q_mvv (v := .bool _) rfl) ?_ | refine o_q (q_mv) ?_
    first | refine o_q (q_asv (v := .bool _) rfl) ?_ | refine o_q (q_as) ?_
    refine JL.nil ?_
    refine J.ret ?_
    exact ret_ok (fn := Try.f5) rfl (.tmp rfl .nil) rfl
  ·
    have qr : (n : Int) < 0 ∨ (0 ≤ (n : Int) ∧ (rows : Int) ≤ (n : Int)) := by omega
    have In : (L.take n ++ [R] ++ L.drop n).length ≤ 1000000 := by simp; omega
    have Ir : ∀ r ∈ L.take n ++ [R] ++ L.drop n, r.length ≤ 1000000 := fun r hr => by
      simp at hr
      rcases hr with h | rfl | h
      · have := hLr r (List.mem_of_mem_take h); omega
      · omega
      · have := hLr r (List.mem_of_mem_drop h); omega
    have If : ∀ r ∈ L.take n ++ [R] ++ L.drop n, ∀ t ∈ r, Fit t.2 := fun r hr t ht => by
      simp at hr
      rcases hr with h | rfl | h
      · exact hLF r (List.mem_of_mem_take h) t ht
      · exact hRF t ht
      · exact hLF r (List.mem_of_mem_drop h) t ht
    have Ln : L.length ≤ 1000000 := by omega
    have Lr : ∀ r ∈ L, r.length ≤ 1000000 := fun r hr => by have := hLr r hr; omega
    refine J.region ?_
    refine o_q (q_lda (vs := [_, _, _]) rfl inferInstance ⟨rfl, rfl, rfl, trivial⟩) ?_
    first | refine o_q (q_mvv (v := .int _ _) rfl) ?_ | refine o_q (q_mv) ?_
    first | refine o_q (q_mvv (v := .slice _ _ _) rfl) ?_ | refine o_q (q_mv) ?_
    refine o_call (insert_ok (i := n) ⟨_, _, rfl, hS.mono⟩ (by rw [hcL]) (by omega) rR.mono (by omega) (by omega) qg) (fun v31 h31 s31 r31 => ?_)
    rw [crs_ins] at r31
    obtain ⟨w31, rfl, p31, c31, rfl, i31⟩ := r31
    refine o_q (q_mv) ?_
    refine o_q (q_ex rfl rfl) ?_
    refine o_q (q_ex rfl rfl) ?_
    refine o_al (fun b10 => ?_)
    refine o_stw (vs := [_, _, _]) rfl rfl rfl inferInstance rfl rfl ?_
    first | refine o_q (q_asv (v := .int _ _) rfl) ?_ | refine o_q (q_as) ?_
    refine JL.nil ?_
    refine J.seq ?_
    refine J.region ?_
    refine o_q (q_lda (vs := [_, _, _]) rfl inferInstance ⟨rfl, rfl, rfl, trivial⟩) ?_
    first | refine o_q (q_mvv (v := .int _ _) rfl) ?_ | refine o_q (q_mv) ?_
    first | refine o_q (q_mvv (v := .slice _ _ _) rfl) ?_ | refine o_q (q_mv) ?_
    refine o_call (insertr_ok (i := n) ⟨_, _, rfl, hS.mono⟩ (by rw [hcL]) (by omega) rR.mono (by omega) (by omega) qg) (fun v38 h38 s38 r38 => ?_)
    rw [crs_ins] at r38
    obtain ⟨w38, rfl, p38, c38, rfl, i38⟩ := r38
    refine o_q (q_mv) ?_
    refine o_q (q_ex rfl rfl) ?_
    refine o_q (q_ex rfl rfl) ?_
    refine o_al (fun b12 => ?_)
    refine o_stw (vs := [_, _, _]) rfl rfl rfl inferInstance rfl rfl ?_
    first | refine o_q (q_asv (v := .int _ _) rfl) ?_ | refine o_q (q_as) ?_
    refine JL.nil ?_
    refine J.seq ?_
    refine J.region ?_
    refine o_q (q_lda (vs := [_, _, _]) rfl inferInstance ⟨rfl, rfl, rfl, trivial⟩) ?_
    first | refine o_q (q_mvv (v := .int _ _) rfl) ?_ | refine o_q (q_mv) ?_
    refine o_call (remove_err qr) (fun v44 hv44 sv44 ev44 => ?_)
    subst ev44
    refine o_q (q_mv) ?_
    refine o_q (q_ex rfl rfl) ?_
    refine o_q (q_ex rfl rfl) ?_
    refine o_al (fun b14 => ?_)
    refine o_stw (vs := [_, _, _]) rfl rfl rfl inferInstance rfl rfl ?_
    first | refine o_q (q_asv (v := .int _ _) rfl) ?_ | refine o_q (q_as) ?_
    refine JL.nil ?_
    refine J.seq ?_
    refine J.region ?_
    refine o_q (q_lda (vs := [_, _, _]) rfl inferInstance ⟨rfl, rfl, rfl, trivial⟩) ?_
    first | refine o_q (q_mvv (v := .int _ _) rfl) ?_ | refine o_q (q_mv) ?_
    refine o_call (remover_err qr) (fun v50 hv50 sv50 ev50 => ?_)
    subst ev50
    refine o_q (q_mv) ?_
    refine o_q (q_ex rfl rfl) ?_
    refine o_q (q_ex rfl rfl) ?_
    refine o_al (fun b16 => ?_)
    refine o_stw (vs := [_, _, _]) rfl rfl rfl inferInstance rfl rfl ?_
    first | refine o_q (q_asv (v := .int _ _) rfl) ?_ | refine o_q (q_as) ?_
    refine JL.nil ?_
    refine J.seq ?_
    refine J.seq ?_
    refine J.region ?_
    refine o_q (q_lda (vs := [_, _, _]) rfl inferInstance ⟨rfl, rfl, rfl, trivial⟩) ?_
    refine o_q (q_lda (vs := [_, _, _]) rfl inferInstance ⟨rfl, rfl, rfl, trivial⟩) ?_
    refine o_call (Fn.mono (R' := fun v _ => v = .bool true) (equals_fn (l := (L.take n ++ [R] ++ L.drop n)) (m := (L.take n ++ [R] ++ L.drop n)) ⟨_, _, rfl, i31.mono⟩ ⟨_, _, rfl, i38.mono⟩ In In Ir Ir If If) (fun _ _ _ e => e.trans (congrArg Value.bool (decide_eq_true ⟨rfl, rfl, rfl⟩)))) (fun v55 h55 s55 e55 => ?_)
    subst e55
    refine o_q (q_not rfl) ?_
    first | refine o_q (q_mvv (v := .bool _) rfl) ?_ | refine o_q (q_mv) ?_
    refine JL.guardT rfl rfl rfl ?_
    first | refine o_q (q_mvv (v := .int _ _) rfl) ?_ | refine o_q (q_mv) ?_
    refine JL.guardT rfl rfl rfl ?_
    first | refine o_q (q_mvv (v := .int _ _) rfl) ?_ | refine o_q (q_mv) ?_
    refine JL.guardT rfl rfl rfl ?_
    refine o_q (q_neq rfl rfl) ?_
    first | refine o_q (q_pickFv (v := .bool _) rfl rfl rfl) ?_ | refine o_q (q_pickF rfl rfl) ?_
    first | refine o_q (q_mvv (v := .bool _) rfl) ?_ | refine o_q (q_mv) ?_
    refine JL.guardT rfl rfl (decide_eq_false (fun e => e rfl)) ?_
    refine o_q (q_lda (vs := [_, _, _]) rfl inferInstance ⟨rfl, rfl, rfl, trivial⟩) ?_
    refine JL.guardT rfl rfl (decide_eq_false (fun e => e rfl)) ?_
    refine o_q (q_lda (vs := [_, _, _]) rfl inferInstance ⟨rfl, rfl, rfl, trivial⟩) ?_
    refine JL.guardT rfl rfl (decide_eq_false (fun e => e rfl)) ?_
    refine o_call (Fn.mono (R' := fun v _ => v = .bool true) (equals_fn (l := []) (m := []) ⟨none, 0, rfl, Sls.nil _⟩ ⟨none, 0, rfl, Sls.nil _⟩ (by decide) (by decide) (by decide) (by decide) (fun r hr => (by cases hr)) (fun r hr => (by cases hr))) (fun _ _ _ e => e.trans (congrArg Value.bool (decide_eq_true ⟨rfl, rfl, rfl⟩)))) (fun v65 h65 s65 e65 => ?_)
    subst e65
    refine JL.guardT rfl rfl (decide_eq_false (fun e => e rfl)) ?_
    refine o_q (q_not rfl) ?_
    first | refine o_q (q_pickFv (v := .bool _) rfl (decide_eq_false (fun e => e rfl)) rfl) ?_ | refine o_q (q_pickF rfl (decide_eq_false (fun e => e rfl))) ?_
    first | refine o_q (q_mvv (v := .bool _) rfl) ?_ | refine o_q (q_mv) ?_
    refine JL.guardT rfl rfl rfl ?_
    first | refine o_q (q_mvv (v := .int _ _) rfl) ?_ | refine o_q (q_mv) ?_
    refine JL.guardT rfl rfl rfl ?_
    first | refine o_q (q_mvv (v := .int _ _) rfl) ?_ | refine o_q (q_mv) ?_
    refine JL.guardT rfl rfl rfl ?_
    refine o_q (q_neq rfl rfl) ?_
    first | refine o_q (q_pickFv (v := .bool _) rfl rfl rfl) ?_ | refine o_q (q_pickF rfl rfl) ?_
    refine JL.nil ?_
    refine J.condF rfl (decide_eq_false (fun e => e rfl)) ?_
    refine J.skip ?_
    refine J.seq ?_
    refine J.seq ?_
    refine J.region ?_
    first | refine o_q (q_mvv (v := .int _ _) rfl) ?_ | refine o_q (q_mv) ?_
    refine o_q (q_neq rfl rfl) ?_
    refine JL.nil ?_
    refine J.condF rfl (decide_eq_false (by decide)) ?_
    refine J.skip ?_
    refine J.seq ?_
    refine J.region ?_
    refine o_q (q_lda (vs := [_, _, _]) rfl inferInstance ⟨rfl, rfl, rfl, trivial⟩) ?_
    first | refine o_q (q_mvv (v := .int _ _) rfl) ?_ | refine o_q (q_mv) ?_
    have hMl : (crs (L.take n ++ [R] ++ L.drop n)).length = rows + 1 := by simp; omega
    refine o_call (remove_ok (i := n) (L := crs (L.take n ++ [R] ++ L.drop n)) ⟨_, _, rfl, i38.mono⟩ (by rw [hMl]; rfl) (by omega) (by omega)) (fun v79 h79 s79 r79 => ?_)
    rw [crs_cut, show (crs (L.take n ++ [R] ++ L.drop n)).length = (L.take n ++ [R] ++ L.drop n).length from List.length_map .., cut_ins L R (by omega), Int.add_sub_cancel] at r79
    obtain ⟨w79, rfl, p79, c79, rfl, i79⟩ := r79
    refine o_q (q_mv) ?_
    refine o_q (q_ex rfl rfl) ?_
    refine o_q (q_ex rfl rfl) ?_
    refine o_al (fun b18 => ?_)
    refine o_stw (vs := [_, _, _]) rfl rfl rfl inferInstance rfl rfl ?_
    first | refine o_q (q_asv (v := .int _ _) rfl) ?_ | refine o_q (q_as) ?_
    refine JL.nil ?_
    refine J.seq ?_
    refine J.region ?_
    first | refine o_q (q_mvv (v := .bool _) rfl) ?_ | refine o_q (q_mv) ?_
    first | refine o_q (q_mvv (v := .bool _) rfl) ?_ | refine o_q (q_mv) ?_
    refine JL.guardT rfl rfl rfl ?_
    first | refine o_q (q_mvv (v := .int _ _) rfl) ?_ | refine o_q (q_mv) ?_
    refine JL.guardT rfl rfl rfl ?_
    refine o_q (q_eql rfl rfl) ?_
    first | refine o_q (q_pickTv (v := .bool _) rfl rfl rfl) ?_ | refine o_q (q_pickT rfl rfl) ?_
    first | refine o_q (q_mvv (v := .bool _) rfl) ?_ | refine o_q (q_mv) ?_
    refine JL.guardT rfl rfl (decide_eq_true rfl) ?_
    refine o_q (q_lda (vs := [_, _, _]) rfl inferInstance ⟨rfl, rfl, rfl, trivial⟩) ?_
    refine JL.guardT rfl rfl (decide_eq_true rfl) ?_
    refine o_q (q_lda (vs := [_, _, _]) rfl inferInstance ⟨rfl, rfl, rfl, trivial⟩) ?_
    refine JL.guardT rfl rfl (decide_eq_true rfl) ?_
    refine o_call (Fn.mono (R' := fun v _ => v = .bool true) (equals_fn (l := L) (m := L) ⟨_, _, rfl, i79.mono⟩ ⟨_, _, rfl, hS.mono⟩ Ln Ln Lr Lr hLF hLF) (fun _ _ _ e => e.trans (congrArg Value.bool (decide_eq_true ⟨rfl, rfl, rfl⟩)))) (fun v90 h90 s90 e90 => ?_)
    subst e90
    first | refine o_q (q_pickTv (v := .bool _) rfl (decide_eq_true rfl) rfl) ?_ | refine o_q (q_pickT rfl (decide_eq_true rfl)) ?_
    first | refine o_q (q_asv (v := .bool _) rfl) ?_ | refine o_q (q_as) ?_
    refine JL.nil ?_
    refine J.ret ?_
    exact ret_ok (fn := Try.f5) rfl (.tmp rfl .nil) rfl
end Go.Z
