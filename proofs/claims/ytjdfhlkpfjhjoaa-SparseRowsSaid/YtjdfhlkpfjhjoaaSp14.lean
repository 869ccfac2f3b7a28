/- slices.Grow and slices.Concat at the program's types, walked. -/
import Derived.Test.YtjdfhlkpfjhjoaaSp13
import Derived.Test.YtjdfhlkpfjhjoaaB13
set_option linter.unusedSimpArgs false
set_option linter.unusedVariables false
namespace Go.Z
open Go Go.RowKit Go.Proofs
theorem grow_fn {rr : Option Nat} {nn : Nat} {w0 : World} {h0 : Heap} {L : Own} {h : Heap} {n : Nat} (hn : 0 < n) (hn2 : n ≤ 1000000000) :
    FnIn ⟨Try.prog, rr, nn, w0, h0⟩ 70 #[.slice none 0 0, .int .i64 (n : Int)] h L fun r h' L' => ∃ b c sp, r = .slice (some ⟨b, 0, none⟩) 0 c ∧ n ≤ c ∧ sp.length = c * 1 ∧ L' = (b, row 26 sp) :: L := by
  refine FnIn.intro (args := [_, _]) Try.func70 rfl rfl (Nat.le_of_ble_eq_true rfl) ?_
  refine J.seq ?_
  refine J.region ?_
  refine o_q (q_as) ?_
  refine JL.nil ?_
  refine J.seq ?_
  refine J.seq ?_
  refine J.region ?_
  first | refine o_q (q_mvv (v := .int _ _) rfl) ?_ | refine o_q (q_mv) ?_
  refine o_q (q_lss rfl rfl) ?_
  refine JL.nil ?_
  refine J.condF rfl (decide_eq_false (by omega)) ?_
  refine J.skip ?_
  refine J.seq ?_
  refine J.seq ?_
  refine J.region ?_
  first | refine o_q (q_mvv (v := .int _ _) rfl) ?_ | refine o_q (q_mv) ?_
  first | refine o_q (q_mvv (v := .slice _ _ _) rfl) ?_ | refine o_q (q_mv) ?_
  refine o_q (q_cap rfl) ?_
  first | refine o_q (q_mvv (v := .slice _ _ _) rfl) ?_ | refine o_q (q_mv) ?_
  refine o_q (q_len rfl) ?_
  refine o_q (q_sub (c := 0) rfl rfl rfl) ?_
  refine o_q (q_sub (c := (n : Int)) rfl rfl (by rw [wi64 (by omega)]; omega)) ?_
  first | refine o_q (q_asv (v := .int _ _) rfl) ?_ | refine o_q (q_as) ?_
  refine JL.nil ?_
  refine J.seq ?_
  refine J.region ?_
  first | refine o_q (q_mvv (v := .int _ _) rfl) ?_ | refine o_q (q_mv) ?_
  refine o_q (q_gtr rfl rfl) ?_
  refine JL.nil ?_
  refine J.condT rfl (decide_eq_true (by omega)) ?_
  refine J.region ?_
  first | refine o_q (q_mvv (v := .slice _ _ _) rfl) ?_ | refine o_q (q_mv) ?_
  first | refine o_q (q_mvv (v := .slice _ _ _) rfl) ?_ | refine o_q (q_mv) ?_
  refine o_q (q_cap rfl) ?_
  refine o_q (q_slH rfl rfl (by omega)) ?_
  first | refine o_q (q_mvv (v := .int _ _) rfl) ?_ | refine o_q (q_mv) ?_
  refine o_appZ (n := n) rfl rfl hn hn2 (fun b c sp hc hsp => ?_)
  first | refine o_q (q_mvv (v := .slice _ _ _) rfl) ?_ | refine o_q (q_mv) ?_
  refine o_q (q_len rfl) ?_
  refine o_q (q_slH rfl rfl (by omega)) ?_
  first | refine o_q (q_asv (v := .slice _ _ _) rfl) ?_ | refine o_q (q_as) ?_
  refine JL.nil ?_
  refine J.seq ?_
  refine J.region ?_
  first | refine o_q (q_mvv (v := .slice _ _ _) rfl) ?_ | refine o_q (q_mv) ?_
  first | refine o_q (q_asv (v := .slice _ _ _) rfl) ?_ | refine o_q (q_as) ?_
  refine JL.nil ?_
  refine J.ret ?_
  exact ret_okL rfl (.tmp rfl .nil) ⟨_, _, _, rfl, hc, hsp, rfl⟩
theorem Cells.plain1 {α : Type} {R : Heap → List Value → α → Prop} [pl : Pl R] {h : Heap} {cs : List Value} {l : List α} (c : Cells R 1 h cs l) : ∀ u ∈ cs, plain u = true := fun u hu => by
  obtain ⟨j, hj⟩ := List.mem_iff_getElem?.1 hu
  obtain ⟨r, hr⟩ := lt_get (show j < l.length by have := (List.getElem?_eq_some_iff.1 hj).1; have := c.1; omega)
  refine pl.p (c.2 j r hr) u (List.mem_iff_getElem?.2 ⟨0, ?_⟩)
  rw [List.getElem?_take, if_pos (by decide), List.getElem?_drop]
  simpa using hj
theorem flat_succ {α : Type} {L : List (List α)} {i : Nat} {r : List α} (h : L[i]? = some r) : (L.take (i + 1)).flatten = (L.take i).flatten ++ r := by
  rw [List.take_add_one, h]; simp
theorem flat_nz {α : Type} (L : List (List α)) : L.flatten.length = nz L := by rw [List.length_flatten]; rfl
theorem concat_fn {h : Heap} {v : Value} {A : List (List (List RT))} (hv : Sls (One RowsAt) 1 h v A) (hA : A.length ≤ 900) (hAr : ∀ r ∈ A, r.length ≤ 1000000) (hpos : 0 < nz A) :
    Fn Try.prog 58 #[v] h fun r h' => RowsAt h' r A.flatten := by
  obtain ⟨p, c, rfl, hc⟩ := hv.out
  refine Fn.intro (args := [_]) Try.func58 rfl rfl (Nat.le_of_ble_eq_true rfl) fun w => ?_
  refine J.seq ?_
  refine J.region ?_
  refine o_q (q_as) ?_
  refine JL.nil ?_
  refine J.seq ?_
  refine J.region ?_
  refine o_q (q_as) ?_
  refine JL.nil ?_
  -- cut: kept [0], said [3]
  first | refine J.cutK (α := Unit) (fun _ h' L' => [] = L') [(0, .slice _ _ _)] ⟨rfl, trivial⟩ (fun _ => [(3, .int .i64 ((nz A : Nat) : Int))]) ?_ ?_ | refine J.cutK (α := Unit) (fun _ h' L' => [] = L') [(0, _)] ⟨rfl, trivial⟩ (fun _ => [(3, .int .i64 ((nz A : Nat) : Int))]) ?_ ?_
  ·
    refine J.seq ?_
    refine J.region ?_
    first | refine o_q (q_mvv (v := .slice _ _ _) rfl) ?_ | refine o_q (q_mv) ?_
    refine o_q (q_len rfl) ?_
    refine o_q (q_mv) ?_
    refine JL.nil ?_
    refine J.block ?_
    -- loop 0: kept [0, 9, 10], said [3, 11]
    first | refine J.loopK (α := Nat) (fun i h' L' => i ≤ A.length ∧ [] = L') [(0, .slice _ _ _), (9, .slice _ _ _), (10, .int _ _)] ⟨rfl, rfl, rfl, trivial⟩ (fun i => [(3, .int .i64 ((nz (A.take i) : Nat) : Int)), (11, .int .i64 (i : Int))]) (fun i => A.length - i) (0) ⟨by omega, rfl⟩ ⟨rfl, rfl, trivial⟩ ?_ | refine J.loopK (α := Nat) (fun i h' L' => i ≤ A.length ∧ [] = L') [(0, _), (9, _), (10, _)] ⟨rfl, rfl, rfl, trivial⟩ (fun i => [(3, .int .i64 ((nz (A.take i) : Nat) : Int)), (11, .int .i64 (i : Int))]) (fun i => A.length - i) (0) ⟨by omega, rfl⟩ ⟨rfl, rfl, trivial⟩ ?_
    rintro i σ h1 L1 s1 ⟨hi, rfl⟩
    refine J.seq ?_
    refine J.region ?_
    refine o_q (q_lss rfl rfl) ?_
    refine JL.nil ?_
    refine J.seq ?_
    refine J.condD rfl (fun c0 => ?_) (fun c0 => ?_)
    ·
      obtain ⟨r, hr⟩ := lt_get (show i < A.length by omega)
      obtain ⟨kx, ox, qx, mx, nx, rfl, hcx, hrx⟩ := Sls.row hv hr
      have mr := hAr r (List.mem_of_getElem? hr)
      have hle := nz_le hAr i
      obtain ⟨px, cx, ex, hcx2⟩ := hrx.out
      cases ex
      refine J.skip ?_
      refine J.seq ?_
      refine J.block ?_
      refine J.seq ?_
      refine J.region ?_
      refine o_q (q_ia rfl rfl (by omega)) ?_
      refine o_q (q_ldf rfl hcx) ?_
      first | refine o_q (q_asv (v := .slice _ _ _) rfl) ?_ | refine o_q (q_as) ?_
      refine JL.nil ?_
      refine J.seq ?_
      refine J.region ?_
      first | refine o_q (q_mvv (v := .int _ _) rfl) ?_ | refine o_q (q_mv) ?_
      first | refine o_q (q_mvv (v := .slice _ _ _) rfl) ?_ | refine o_q (q_mv) ?_
      refine o_q (q_len rfl) ?_
      refine o_q (q_add (c := ((nz (A.take i) + r.length : Nat) : Int)) rfl rfl (by rw [wi64 (by omega)]; omega)) ?_
      first | refine o_q (q_asv (v := .int _ _) rfl) ?_ | refine o_q (q_as) ?_
      refine JL.nil ?_
      refine J.seq ?_
      refine J.region ?_
      first | refine o_q (q_mvv (v := .int _ _) rfl) ?_ | refine o_q (q_mv) ?_
      refine o_q (q_lss rfl rfl) ?_
      refine JL.nil ?_
      refine J.condF rfl (decide_eq_false (by omega)) ?_
      refine J.skip ?_
      refine J.region ?_
      refine o_q (q_add (c := ((i + 1 : Nat) : Int)) rfl rfl (by rw [wi64 (by omega)]; omega)) ?_
      first | refine o_q (q_mvv (v := .int _ _) rfl) ?_ | refine o_q (q_mv) ?_
      refine JL.nil ?_
      exact ⟨i + 1, rfl, ⟨rfl, rfl, rfl, trivial⟩, ⟨(by rw [nz_succ hr] <;> rfl), rfl, trivial⟩, ⟨by omega, rfl⟩, by omega, inferInstance⟩
    ·
      refine J.exit ?_
      exact ⟨(), rfl, ⟨rfl, trivial⟩, ⟨(by rw [show nz A = nz (A.take i) by rw [List.take_of_length_le (by omega)]] <;> rfl), trivial⟩, rfl, inferInstance⟩
  ·
    rintro _ σ9 h9 L9 s9 rfl
    refine J.seq ?_
    refine J.region ?_
    first | refine o_q (q_mvv (v := .int _ _) rfl) ?_ | refine o_q (q_mv) ?_
    have hall := nz_le hAr A.length
    rw [List.take_length] at hall
    refine o_calll (grow_fn (n := nz A) hpos (by omega)) (fun v24 h24 L24 s24 hv24 => ?_)
    obtain ⟨b24, c24, sp24, rfl, hc24, hsp24, rfl⟩ := hv24
    first | refine o_q (q_asv (v := .slice _ _ _) rfl) ?_ | refine o_q (q_as) ?_
    refine JL.nil ?_
    -- cut: kept [], said [6]
    first | refine J.cutK (α := List Value × Option Addr × Nat × Own) (fun ⟨ys, pv, cv, Lb⟩ h' L' => OwnS 26 1 (.slice pv A.flatten.length cv) A.flatten.length ys Lb ∧ Cells (One RowAt) 1 h' ys A.flatten ∧ List.Sublist Lb L') [] trivial (fun ⟨ys, pv, cv, Lb⟩ => [(6, .slice pv A.flatten.length cv)]) ?_ ?_ | refine J.cutK (α := List Value × Option Addr × Nat × Own) (fun ⟨ys, pv, cv, Lb⟩ h' L' => OwnS 26 1 (.slice pv A.flatten.length cv) A.flatten.length ys Lb ∧ Cells (One RowAt) 1 h' ys A.flatten ∧ List.Sublist Lb L') [] trivial (fun ⟨ys, pv, cv, Lb⟩ => [(6, .slice pv A.flatten.length cv)]) ?_ ?_
    ·
      refine J.seq ?_
      refine J.region ?_
      first | refine o_q (q_mvv (v := .slice _ _ _) rfl) ?_ | refine o_q (q_mv) ?_
      refine o_q (q_len rfl) ?_
      refine o_q (q_mv) ?_
      refine JL.nil ?_
      refine J.block ?_
      -- loop 1: kept [25, 26], said [6, 27]
      first | refine J.loopK (α := Nat × List Value × Option Addr × Nat × Own) (fun ⟨i, ys, pv, cv, Lb⟩ h' L' => i ≤ A.length ∧ OwnS 26 1 (.slice pv (A.take i).flatten.length cv) (A.take i).flatten.length ys Lb ∧ Cells (One RowAt) 1 h' ys (A.take i).flatten ∧ List.Sublist Lb L') [(25, .slice _ _ _), (26, .int _ _)] ⟨rfl, rfl, trivial⟩ (fun ⟨i, ys, pv, cv, Lb⟩ => [(6, .slice pv (A.take i).flatten.length cv), (27, .int .i64 (i : Int))]) (fun x => A.length - x.1) ((0, [], some ⟨b24, 0, none⟩, c24, [(b24, row 26 sp24)])) ⟨by omega, ⟨rfl, .inr ⟨b24, c24, sp24, rfl, rfl, Nat.zero_le _, hsp24⟩⟩, Cells.nil, List.Sublist.refl _⟩ ⟨rfl, rfl, trivial⟩ ?_ | refine J.loopK (α := Nat × List Value × Option Addr × Nat × Own) (fun ⟨i, ys, pv, cv, Lb⟩ h' L' => i ≤ A.length ∧ OwnS 26 1 (.slice pv (A.take i).flatten.length cv) (A.take i).flatten.length ys Lb ∧ Cells (One RowAt) 1 h' ys (A.take i).flatten ∧ List.Sublist Lb L') [(25, _), (26, _)] ⟨rfl, rfl, trivial⟩ (fun ⟨i, ys, pv, cv, Lb⟩ => [(6, .slice pv (A.take i).flatten.length cv), (27, .int .i64 (i : Int))]) (fun x => A.length - x.1) ((0, [], some ⟨b24, 0, none⟩, c24, [(b24, row 26 sp24)])) ⟨by omega, ⟨rfl, .inr ⟨b24, c24, sp24, rfl, rfl, Nat.zero_le _, hsp24⟩⟩, Cells.nil, List.Sublist.refl _⟩ ⟨rfl, rfl, trivial⟩ ?_
      rintro ⟨i, ys, pv, cv, Lb⟩ σ2 h2 L2 s2 ⟨hi, ho, hcs, hsub⟩
      refine J.sub hsub ?_
      refine J.seq ?_
      refine J.region ?_
      refine o_q (q_lss rfl rfl) ?_
      refine JL.nil ?_
      refine J.seq ?_
      refine J.condD rfl (fun c2 => ?_) (fun c2 => ?_)
      ·
        obtain ⟨r, hr⟩ := lt_get (show i < A.length by omega)
        obtain ⟨kx, ox, qx, mx, nx, rfl, hcx, hrx⟩ := Sls.row hv hr
        have mr := hAr r (List.mem_of_getElem? hr)
        have hle := nz_le hAr i
        obtain ⟨px, cx, ex, hcx2⟩ := hrx.out
        cases ex
        have hfl := flat_nz (A.take i)
        refine J.skip ?_
        refine J.seq ?_
        refine J.block ?_
        refine J.seq ?_
        refine J.region ?_
        refine o_q (q_ia rfl rfl (by omega)) ?_
        refine o_q (q_ldf rfl hcx) ?_
        first | refine o_q (q_asv (v := .slice _ _ _) rfl) ?_ | refine o_q (q_as) ?_
        refine JL.nil ?_
        refine J.region ?_
        first | refine o_q (q_mvv (v := .slice _ _ _) rfl) ?_ | refine o_q (q_mv) ?_
        first | refine o_q (q_mvv (v := .slice _ _ _) rfl) ?_ | refine o_q (q_mv) ?_
        obtain ⟨cs, hs, hc3⟩ := hrx
        refine o_app rfl rfl ho inferInstance (src_fro hs hc3.plain1) (by omega) (fun v33 L33 ho33 => ?_)
        obtain ⟨p33, c33, rfl⟩ := ho33.out
        first | refine o_q (q_asv (v := .slice _ _ _) rfl) ?_ | refine o_q (q_as) ?_
        refine JL.nil ?_
        refine J.region ?_
        refine o_q (q_add (c := ((i + 1 : Nat) : Int)) rfl rfl (by rw [wi64 (by omega)]; omega)) ?_
        first | refine o_q (q_mvv (v := .int _ _) rfl) ?_ | refine o_q (q_mv) ?_
        refine JL.nil ?_
        have hf := flat_succ hr
        exact ⟨(i + 1, _, p33, c33, L33), rfl, ⟨rfl, rfl, trivial⟩, ⟨(by rw [hf, List.length_append] <;> rfl), rfl, trivial⟩, ⟨by omega, (by rw [hf, List.length_append]; exact ho33), (by rw [hf]; exact hcs.mono.append hc3.mono), (by repeat' first | exact List.Sublist.refl _ | apply List.Sublist.cons_cons | apply List.Sublist.append (List.Sublist.refl _) | apply List.Sublist.cons)⟩, by show A.length - (i + 1) < A.length - i; omega, inferInstance⟩
      ·
        refine J.exit ?_
        obtain rfl : i = A.length := by omega
        rw [List.take_length] at ho hcs
        exact ⟨(ys, pv, cv, Lb), rfl, trivial, ⟨(by rw [show A.flatten = (A.take A.length).flatten by rw [List.take_length]] <;> rfl), trivial⟩, ⟨ho, hcs, List.Sublist.refl _⟩, inferInstance⟩
    ·
      rintro ⟨ys, pv, cv, Lb⟩ σ8 h8 L8 s8 ⟨ho, hcs, hsub⟩
      refine J.sub hsub ?_
      refine J.seq ?_
      refine J.fzS ho (fun h11 s11 hs11 => ?_)
      refine J.region ?_
      first | refine o_q (q_mvv (v := .slice _ _ _) rfl) ?_ | refine o_q (q_mv) ?_
      first | refine o_q (q_asv (v := .slice _ _ _) rfl) ?_ | refine o_q (q_as) ?_
      refine JL.nil ?_
      refine J.ret ?_
      exact ret_ok (fn := Try.f58) rfl (.tmp rfl .nil) (Sls.of hs11 hcs.mono rfl)
end Go.Z
