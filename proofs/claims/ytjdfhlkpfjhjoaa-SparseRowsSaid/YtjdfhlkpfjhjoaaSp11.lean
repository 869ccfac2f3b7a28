/- The matrices that the laws make of their bytes, walked. -/
import Derived.Test.YtjdfhlkpfjhjoaaSp9
set_option linter.unusedSimpArgs false
set_option linter.unusedVariables false
namespace Go.Z
open Go Go.RowKit Go.Proofs
def rowN (l : List Int) (cols i n : Nat) : List Int := (List.range n).map fun k => digit10 l (i * cols + k)
def matL (l : List Int) (rows cols : Nat) : List (List Int) := (List.range rows).map fun i => rowN l cols i cols
theorem rowN_succ (l : List Int) (cols i n : Nat) : rowN l cols i (n + 1) = rowN l cols i n ++ [digit10 l (i * cols + n)] := by simp [rowN, List.range_succ]
theorem rowN_len (l : List Int) (cols i n : Nat) : (rowN l cols i n).length = n := by simp [rowN]
theorem matL_succ (l : List Int) (rows cols : Nat) : matL l (rows + 1) cols = matL l rows cols ++ [rowN l cols rows cols] := by simp [matL, List.range_succ]
theorem matL_len (l : List Int) (rows cols : Nat) : (matL l rows cols).length = rows := by simp [matL]
theorem matL_row {l : List Int} {rows cols : Nat} : ∀ r ∈ matL l rows cols, r.length = cols ∧ ∀ z ∈ r, z.natAbs ≤ 9 := fun r hr => by
  obtain ⟨i, _, rfl⟩ := List.mem_map.1 hr
  refine ⟨rowN_len l cols i cols, fun z hz => ?_⟩
  obtain ⟨k, _, rfl⟩ := List.mem_map.1 hz
  exact digit10_bnd l _
def RawMat (h : Heap) (v : Value) (r c : Nat) (l : List Int) : Prop := ∃ p k, v = .agg ⟨[.int .u8 (r : Int), .int .u8 (c : Int), .slice p l.length k]⟩ ∧ BytesAt h (.slice p l.length k) l
theorem RawMat.mono {h h' : Heap} {v : Value} {r c : Nat} {l : List Int} (s : RawMat h v r c l) [e : Ext h h'] : RawMat h' v r c l := let ⟨p, k, a, b⟩ := s; ⟨p, k, a, b.mono⟩
set_option maxHeartbeats 4000000 in
theorem sized_fn {h : Heap} {v : Value} {r0 c0 rows cols : Nat} {l : List Int} (hv : RawMat h v r0 c0 l) (hr : rows ≤ 100) (hc : cols ≤ 100) :
    Fn Try.prog 28 #[v, .int .i64 (rows : Int), .int .i64 (cols : Int)] h fun r h' => MatAt h' r rows cols (matL l rows cols) := by
  obtain ⟨p, kk, rfl, hl⟩ := hv
  refine Fn.intro (args := [_, _, _]) Try.func28 rfl rfl (Nat.le_of_ble_eq_true rfl) fun w => ?_
  refine J.seq ?_
  refine J.region ?_
  first | refine o_bx (v := .agg _) rfl rfl (fun b3 => ?_) | refine o_bx rfl rfl (fun b3 => ?_)
  refine o_al (fun b6 => ?_)
  refine JL.nil ?_
  refine J.seq ?_
  refine J.region ?_
  first | refine o_q (q_mvv (v := .int _ _) rfl) ?_ | refine o_q (q_mv) ?_
  first | refine o_q (q_mvv (v := .int _ _) rfl) ?_ | refine o_q (q_mv) ?_
  first | refine o_q (q_bd [.int _ _, .int _ _, .slice _ _ _] rfl) ?_ | refine o_q (q_bd [_, _, _] rfl) ?_
  refine o_al (fun b7 => ?_)
  refine o_stw (vs := [_, _, _]) rfl rfl rfl inferInstance rfl rfl ?_
  refine JL.nil ?_
  -- cut: kept [6, 7], said []
  first | refine J.cutK (α := List Value × Option Addr × Nat × Own) (fun ⟨ys, pL, cL, Lb⟩ h' L' => OwnS 32 1 (.slice pL rows cL) rows ys Lb ∧ Cells (One VecAt) 1 h' ys (matL l rows cols) ∧ List.Sublist (Lb ++ [(b7, row 50 [.int .i64 (rows : Int), .int .i64 (cols : Int), .slice pL rows cL]), (b6, row 50 [.int .i64 0, .int .i64 0, .slice none 0 0]), (b3, row 46 [.int .u8 (r0 : Int), .int .u8 (c0 : Int), .slice p l.length kk])]) L') [(6, .pointer _), (7, .pointer _)] ⟨rfl, rfl, trivial⟩ (fun _ => []) ?_ ?_ | refine J.cutK (α := List Value × Option Addr × Nat × Own) (fun ⟨ys, pL, cL, Lb⟩ h' L' => OwnS 32 1 (.slice pL rows cL) rows ys Lb ∧ Cells (One VecAt) 1 h' ys (matL l rows cols) ∧ List.Sublist (Lb ++ [(b7, row 50 [.int .i64 (rows : Int), .int .i64 (cols : Int), .slice pL rows cL]), (b6, row 50 [.int .i64 0, .int .i64 0, .slice none 0 0]), (b3, row 46 [.int .u8 (r0 : Int), .int .u8 (c0 : Int), .slice p l.length kk])]) L') [(6, _), (7, _)] ⟨rfl, rfl, trivial⟩ (fun _ => []) ?_ ?_
  ·
    refine J.seq ?_
    refine J.region ?_
    refine o_q (q_as) ?_
    refine JL.nil ?_
    refine J.block ?_
    -- loop 0: kept [1, 2, 3, 6, 7], said [8]
    first | refine J.loopK (α := Nat × List Value × Option Addr × Nat × Own) (fun ⟨i, ys, pL, cL, Lb⟩ h' L' => i ≤ rows ∧ OwnS 32 1 (.slice pL i cL) i ys Lb ∧ Cells (One VecAt) 1 h' ys (matL l i cols) ∧ List.Sublist (Lb ++ [(b7, row 50 [.int .i64 (rows : Int), .int .i64 (cols : Int), .slice pL i cL]), (b6, row 50 [.int .i64 0, .int .i64 0, .slice none 0 0]), (b3, row 46 [.int .u8 (r0 : Int), .int .u8 (c0 : Int), .slice p l.length kk])]) L') [(1, .int _ _), (2, .int _ _), (3, .pointer _), (6, .pointer _), (7, .pointer _)] ⟨rfl, rfl, rfl, rfl, rfl, trivial⟩ (fun ⟨i, ys, pL, cL, Lb⟩ => [(8, .int .i64 (i : Int))]) (fun x => rows - x.1) ((0, [], none, 0, [])) ⟨by omega, OwnS.nil _ _, Cells.nil, List.Sublist.refl _⟩ ⟨rfl, trivial⟩ ?_ | refine J.loopK (α := Nat × List Value × Option Addr × Nat × Own) (fun ⟨i, ys, pL, cL, Lb⟩ h' L' => i ≤ rows ∧ OwnS 32 1 (.slice pL i cL) i ys Lb ∧ Cells (One VecAt) 1 h' ys (matL l i cols) ∧ List.Sublist (Lb ++ [(b7, row 50 [.int .i64 (rows : Int), .int .i64 (cols : Int), .slice pL i cL]), (b6, row 50 [.int .i64 0, .int .i64 0, .slice none 0 0]), (b3, row 46 [.int .u8 (r0 : Int), .int .u8 (c0 : Int), .slice p l.length kk])]) L') [(1, _), (2, _), (3, _), (6, _), (7, _)] ⟨rfl, rfl, rfl, rfl, rfl, trivial⟩ (fun ⟨i, ys, pL, cL, Lb⟩ => [(8, .int .i64 (i : Int))]) (fun x => rows - x.1) ((0, [], none, 0, [])) ⟨by omega, OwnS.nil _ _, Cells.nil, List.Sublist.refl _⟩ ⟨rfl, trivial⟩ ?_
    rintro ⟨i, ys, pL, cL, Lb⟩ σ h1 L1 s1 ⟨hi, ho, hcs, hsub⟩
    refine J.sub hsub ?_
    refine J.seq ?_
    refine J.seq ?_
    refine J.region ?_
    first | refine o_q (q_mvv (v := .int _ _) rfl) ?_ | refine o_q (q_mv) ?_
    first | refine o_q (q_mvv (v := .int _ _) rfl) ?_ | refine o_q (q_mv) ?_
    refine o_q (q_lss rfl rfl) ?_
    refine JL.nil ?_
    refine J.condD rfl (fun c9 => ?_) (fun c9 => ?_)
    ·
      have hil : i ≤ 99 := by omega
      have hic := Nat.mul_le_mul hil hc
      refine J.skip ?_
      refine J.seq ?_
      refine J.block ?_
      refine J.seq ?_
      refine J.region ?_
      refine o_bs [] (by decide) rfl (fun b20 => ?_)
      first | refine o_q (q_asv (v := .slice _ _ _) rfl) ?_ | refine o_q (q_as) ?_
      refine JL.nil ?_
      -- cut: kept [1, 2, 3, 6, 7, 8], said [9]
      first | refine J.cutK (α := List Value × Option Addr × Nat × Own) (fun ⟨xs, pv, cv, Lv⟩ h' L' => OwnS 37 2 (.slice pv cols cv) cols xs Lv ∧ Cells IntR 2 h' xs (rowN l cols i cols) ∧ List.Sublist (Lv ++ (Lb ++ [(b7, row 50 [.int .i64 (rows : Int), .int .i64 (cols : Int), .slice pL i cL]), (b6, row 50 [.int .i64 0, .int .i64 0, .slice none 0 0]), (b3, row 46 [.int .u8 (r0 : Int), .int .u8 (c0 : Int), .slice p l.length kk])])) L') [(1, .int _ _), (2, .int _ _), (3, .pointer _), (6, .pointer _), (7, .pointer _), (8, .int _ _)] ⟨rfl, rfl, rfl, rfl, rfl, rfl, trivial⟩ (fun ⟨xs, pv, cv, Lv⟩ => [(9, .slice pv cols cv)]) ?_ ?_ | refine J.cutK (α := List Value × Option Addr × Nat × Own) (fun ⟨xs, pv, cv, Lv⟩ h' L' => OwnS 37 2 (.slice pv cols cv) cols xs Lv ∧ Cells IntR 2 h' xs (rowN l cols i cols) ∧ List.Sublist (Lv ++ (Lb ++ [(b7, row 50 [.int .i64 (rows : Int), .int .i64 (cols : Int), .slice pL i cL]), (b6, row 50 [.int .i64 0, .int .i64 0, .slice none 0 0]), (b3, row 46 [.int .u8 (r0 : Int), .int .u8 (c0 : Int), .slice p l.length kk])])) L') [(1, _), (2, _), (3, _), (6, _), (7, _), (8, _)] ⟨rfl, rfl, rfl, rfl, rfl, rfl, trivial⟩ (fun ⟨xs, pv, cv, Lv⟩ => [(9, .slice pv cols cv)]) ?_ ?_
      ·
        refine J.seq ?_
        refine J.region ?_
        refine o_q (q_as) ?_
        refine JL.nil ?_
        refine J.block ?_
        -- loop 1: kept [1, 2, 3, 6, 7, 8], said [9, 10]
        first | refine J.loopK (α := Nat × List Value × Option Addr × Nat × Own) (fun ⟨k, xs, pv, cv, Lv⟩ h' L' => k ≤ cols ∧ OwnS 37 2 (.slice pv k cv) k xs Lv ∧ Cells IntR 2 h' xs (rowN l cols i k) ∧ List.Sublist (Lv ++ (Lb ++ [(b7, row 50 [.int .i64 (rows : Int), .int .i64 (cols : Int), .slice pL i cL]), (b6, row 50 [.int .i64 0, .int .i64 0, .slice none 0 0]), (b3, row 46 [.int .u8 (r0 : Int), .int .u8 (c0 : Int), .slice p l.length kk])])) L') [(1, .int _ _), (2, .int _ _), (3, .pointer _), (6, .pointer _), (7, .pointer _), (8, .int _ _)] ⟨rfl, rfl, rfl, rfl, rfl, rfl, trivial⟩ (fun ⟨k, xs, pv, cv, Lv⟩ => [(9, .slice pv k cv), (10, .int .i64 (k : Int))]) (fun x => cols - x.1) ((0, [], some ⟨b20, 0, none⟩, 0, [(b20, row 37 [])])) ⟨by omega, OwnS.lit (xs := []) (n := 0) rfl, Cells.nil, List.Sublist.refl _⟩ ⟨rfl, rfl, trivial⟩ ?_ | refine J.loopK (α := Nat × List Value × Option Addr × Nat × Own) (fun ⟨k, xs, pv, cv, Lv⟩ h' L' => k ≤ cols ∧ OwnS 37 2 (.slice pv k cv) k xs Lv ∧ Cells IntR 2 h' xs (rowN l cols i k) ∧ List.Sublist (Lv ++ (Lb ++ [(b7, row 50 [.int .i64 (rows : Int), .int .i64 (cols : Int), .slice pL i cL]), (b6, row 50 [.int .i64 0, .int .i64 0, .slice none 0 0]), (b3, row 46 [.int .u8 (r0 : Int), .int .u8 (c0 : Int), .slice p l.length kk])])) L') [(1, _), (2, _), (3, _), (6, _), (7, _), (8, _)] ⟨rfl, rfl, rfl, rfl, rfl, rfl, trivial⟩ (fun ⟨k, xs, pv, cv, Lv⟩ => [(9, .slice pv k cv), (10, .int .i64 (k : Int))]) (fun x => cols - x.1) ((0, [], some ⟨b20, 0, none⟩, 0, [(b20, row 37 [])])) ⟨by omega, OwnS.lit (xs := []) (n := 0) rfl, Cells.nil, List.Sublist.refl _⟩ ⟨rfl, rfl, trivial⟩ ?_
        rintro ⟨k, xs, pv, cv, Lv⟩ σ2 h2 L2 s2 ⟨hk, hov, hcv, hsub2⟩
        refine J.sub hsub2 ?_
        refine J.seq ?_
        refine J.seq ?_
        refine J.region ?_
        first | refine o_q (q_mvv (v := .int _ _) rfl) ?_ | refine o_q (q_mv) ?_
        first | refine o_q (q_mvv (v := .int _ _) rfl) ?_ | refine o_q (q_mv) ?_
        refine o_q (q_lss rfl rfl) ?_
        refine JL.nil ?_
        refine J.condD rfl (fun c1 => ?_) (fun c1 => ?_)
        ·
          refine J.skip ?_
          refine J.seq ?_
          refine J.block ?_
          refine J.seq ?_
          refine J.region ?_
          refine o_q (q_as) ?_
          refine JL.nil ?_
          -- cut: kept [1, 2, 3, 6, 7, 8, 9, 10], said [11]
          first | refine J.cutK (α := Unit) (fun _ h' L' => List.Sublist (Lv ++ (Lb ++ [(b7, row 50 [.int .i64 (rows : Int), .int .i64 (cols : Int), .slice pL i cL]), (b6, row 50 [.int .i64 0, .int .i64 0, .slice none 0 0]), (b3, row 46 [.int .u8 (r0 : Int), .int .u8 (c0 : Int), .slice p l.length kk])])) L') [(1, .int _ _), (2, .int _ _), (3, .pointer _), (6, .pointer _), (7, .pointer _), (8, .int _ _), (9, .slice _ _ _), (10, .int _ _)] ⟨rfl, rfl, rfl, rfl, rfl, rfl, rfl, rfl, trivial⟩ (fun _ => [(11, .int .i64 (digit10 l (i * cols + k)))]) ?_ ?_ | refine J.cutK (α := Unit) (fun _ h' L' => List.Sublist (Lv ++ (Lb ++ [(b7, row 50 [.int .i64 (rows : Int), .int .i64 (cols : Int), .slice pL i cL]), (b6, row 50 [.int .i64 0, .int .i64 0, .slice none 0 0]), (b3, row 46 [.int .u8 (r0 : Int), .int .u8 (c0 : Int), .slice p l.length kk])])) L') [(1, _), (2, _), (3, _), (6, _), (7, _), (8, _), (9, _), (10, _)] ⟨rfl, rfl, rfl, rfl, rfl, rfl, rfl, rfl, trivial⟩ (fun _ => [(11, .int .i64 (digit10 l (i * cols + k)))]) ?_ ?_
          ·
            refine J.seq ?_
            refine J.region ?_
            first | refine o_q (q_mvv (v := .int _ _) rfl) ?_ | refine o_q (q_mv) ?_
            first | refine o_q (q_mvv (v := .int _ _) rfl) ?_ | refine o_q (q_mv) ?_
            refine o_q (q_mul (c := ((i * cols : Nat) : Int)) rfl rfl (by rw [← Int.natCast_mul, wi64 (by omega)])) ?_
            first | refine o_q (q_mvv (v := .int _ _) rfl) ?_ | refine o_q (q_mv) ?_
            refine o_q (q_add (c := ((i * cols + k : Nat) : Int)) rfl rfl (by rw [wi64 (by omega)]; omega)) ?_
            refine o_q (q_fa rfl) ?_
            refine o_q (q_ld rfl inferInstance rfl) ?_
            refine o_q (q_len rfl) ?_
            refine o_q (q_lss rfl rfl) ?_
            refine JL.nil ?_
            refine J.condD rfl (fun c2 => ?_) (fun c2 => ?_)
            ·
              obtain ⟨x, hx⟩ := lt_get (show i * cols + k < l.length by omega)
              obtain ⟨kx, ox, ep, hcx, lx, ux⟩ := Sls.byte hl hx
              have hd : digit10 l (i * cols + k) = x.tmod 10 := by unfold digit10; rw [hx]
              have htm := tmod10 x
              refine J.region ?_
              refine o_q (q_fa rfl) ?_
              subst ep
              refine o_q (q_ld rfl inferInstance rfl) ?_
              first | refine o_q (q_mvv (v := .int _ _) rfl) ?_ | refine o_q (q_mv) ?_
              first | refine o_q (q_mvv (v := .int _ _) rfl) ?_ | refine o_q (q_mv) ?_
              refine o_q (q_mul (c := ((i * cols : Nat) : Int)) rfl rfl (by rw [← Int.natCast_mul, wi64 (by omega)])) ?_
              first | refine o_q (q_mvv (v := .int _ _) rfl) ?_ | refine o_q (q_mv) ?_
              refine o_q (q_add (c := ((i * cols + k : Nat) : Int)) rfl rfl (by rw [wi64 (by omega)]; omega)) ?_
              refine o_q (q_ia rfl rfl (by omega)) ?_
              refine o_q (q_ldf rfl hcx) ?_
              refine o_q (q_rem (c := x.tmod 10) rfl rfl (by decide) rfl) ?_
              refine o_q (q_cv (c := x.tmod 10) rfl (wi64 (by omega))) ?_
              first | refine o_q (q_asv (v := .int _ _) rfl) ?_ | refine o_q (q_as) ?_
              refine JL.nil ?_
              exact ⟨(), rfl, ⟨rfl, rfl, rfl, rfl, rfl, rfl, rfl, rfl, trivial⟩, ⟨(by rw [hd] <;> rfl), trivial⟩, (by repeat' first | exact List.Sublist.refl _ | apply List.Sublist.cons_cons | apply List.Sublist.append (List.Sublist.refl _) | apply List.Sublist.cons), inferInstance⟩
            ·
              have hd : digit10 l (i * cols + k) = 0 := by unfold digit10; rw [List.getElem?_eq_none (by omega)]
              refine J.skip ?_
              exact ⟨(), rfl, ⟨rfl, rfl, rfl, rfl, rfl, rfl, rfl, rfl, trivial⟩, ⟨(by rw [hd] <;> rfl), trivial⟩, (by repeat' first | exact List.Sublist.refl _ | apply List.Sublist.cons_cons | apply List.Sublist.append (List.Sublist.refl _) | apply List.Sublist.cons), inferInstance⟩
          ·
            rintro _ σ6 h6 L6 s6 hsub6
            refine J.sub hsub6 ?_
            refine J.region ?_
            first | refine o_q (q_mvv (v := .slice _ _ _) rfl) ?_ | refine o_q (q_mv) ?_
            first | refine o_q (q_mvv (v := .int _ _) rfl) ?_ | refine o_q (q_mv) ?_
            have hdb := digit10_bnd l (i * cols + k)
            refine o_call (of_fn (by omega)) (fun v48 h48 s48 r48 => ?_)
            obtain ⟨p48, n48, c48, rfl, q48⟩ := r48.outR
            first | refine o_bs [.bool _, .slice _ _ _] (by decide) rfl (fun b49 => ?_) | refine o_bs [_, _] (by decide) rfl (fun b49 => ?_)
            refine o_app (m := 1) rfl rfl hov inferInstance (src_own inferInstance (LookN.all _) rfl (by simp [plain])) (by omega) (fun v29 L29 ho29 => ?_)
            obtain ⟨p29, c29, rfl⟩ := ho29.out
            first | refine o_q (q_asv (v := .slice _ _ _) rfl) ?_ | refine o_q (q_as) ?_
            refine JL.nil ?_
            refine J.region ?_
            first | refine o_q (q_mvv (v := .int _ _) rfl) ?_ | refine o_q (q_mv) ?_
            refine o_q (q_add (c := ((k + 1 : Nat) : Int)) rfl rfl (by rw [wi64 (by omega)]; omega)) ?_
            first | refine o_q (q_asv (v := .int _ _) rfl) ?_ | refine o_q (q_as) ?_
            refine JL.nil ?_
            exact ⟨(k + 1, _, p29, c29, L29), rfl, ⟨rfl, rfl, rfl, rfl, rfl, rfl, trivial⟩, ⟨rfl, rfl, trivial⟩, ⟨by omega, ho29, (by rw [rowN_succ]; exact hcv.mono.snoc rfl (Mo.mono' q48)), (by repeat' first | exact List.Sublist.refl _ | apply List.Sublist.cons_cons | apply List.Sublist.append (List.Sublist.refl _) | apply List.Sublist.cons)⟩, by show cols - (k + 1) < cols - k; omega, inferInstance⟩
        ·
          refine J.exit ?_
          obtain rfl : k = cols := by omega
          exact ⟨(xs, pv, cv, Lv), rfl, ⟨rfl, rfl, rfl, rfl, rfl, rfl, trivial⟩, ⟨rfl, trivial⟩, ⟨hov, hcv, (by repeat' first | exact List.Sublist.refl _ | apply List.Sublist.cons_cons | apply List.Sublist.append (List.Sublist.refl _) | apply List.Sublist.cons)⟩, inferInstance⟩
      ·
        rintro ⟨xs, pv, cv, Lv⟩ σ8 h8 L8 s8 ⟨hov, hcv, hsub8⟩
        refine J.sub hsub8 ?_
        refine J.fzS hov (fun h10 s10 hs10 => ?_)
        have hrow : VecAt h10 (.slice pv cols cv) (rowN l cols i cols) := Sls.of hs10 hcv.mono (rowN_len ..).symm
        refine J.region ?_
        refine o_q (q_fa rfl) ?_
        refine o_q (q_ld rfl inferInstance rfl) ?_
        first | refine o_q (q_mvv (v := .slice _ _ _) rfl) ?_ | refine o_q (q_mv) ?_
        first | refine o_bs [.slice _ _ _] (by decide) rfl (fun b54 => ?_) | refine o_bs [_] (by decide) rfl (fun b54 => ?_)
        refine o_app (m := 1) rfl rfl ho inferInstance (src_own inferInstance (LookN.all _) rfl (by simp [plain])) (by omega) (fun v42 L42 ho42 => ?_)
        obtain ⟨p42, c42, rfl⟩ := ho42.out
        refine o_q (q_fa rfl) ?_
        first | refine o_st1 (v := .slice _ _ _) rfl rfl rfl inferInstance (by first | decide | simp) ?_ | refine o_st1 rfl rfl rfl inferInstance (by first | decide | simp) ?_
        refine JL.nil ?_
        refine J.region ?_
        first | refine o_q (q_mvv (v := .int _ _) rfl) ?_ | refine o_q (q_mv) ?_
        refine o_q (q_add (c := ((i + 1 : Nat) : Int)) rfl rfl (by rw [wi64 (by omega)]; omega)) ?_
        first | refine o_q (q_asv (v := .int _ _) rfl) ?_ | refine o_q (q_as) ?_
        refine JL.nil ?_
        exact ⟨(i + 1, _, p42, c42, L42), rfl, ⟨rfl, rfl, rfl, rfl, rfl, trivial⟩, ⟨rfl, trivial⟩, ⟨by omega, ho42, (by rw [matL_succ]; exact hcs.mono.snoc rfl ⟨_, _, _, rfl, hrow.mono⟩), (by repeat' first | exact List.Sublist.refl _ | apply List.Sublist.cons_cons | apply List.Sublist.append (List.Sublist.refl _) | apply List.Sublist.cons)⟩, by show rows - (i + 1) < rows - i; omega, inferInstance⟩
    ·
      refine J.exit ?_
      obtain rfl : i = rows := by omega
      exact ⟨(ys, pL, cL, Lb), rfl, ⟨rfl, rfl, trivial⟩, trivial, ⟨ho, hcs, (by repeat' first | exact List.Sublist.refl _ | apply List.Sublist.cons_cons | apply List.Sublist.append (List.Sublist.refl _) | apply List.Sublist.cons)⟩, inferInstance⟩
  ·
    rintro ⟨ys, pL, cL, Lb⟩ σ9 h9 L9 s9 ⟨ho, hcs, hsub⟩
    refine J.sub hsub ?_
    refine J.seq ?_
    refine J.fzS ho (fun h11 s11 hs11 => ?_)
    refine J.region ?_
    refine o_q (q_lda (vs := [_, _, _]) rfl inferInstance ⟨rfl, rfl, rfl, trivial⟩) ?_
    refine o_stw (vs := [_, _, _]) rfl rfl rfl inferInstance rfl rfl ?_
    refine JL.nil ?_
    refine J.ret ?_
    refine ret_ok (fn := Try.f28) rfl (.agg rfl inferInstance inferInstance .nil) ?_
    have hel := matL_len l rows cols
    refine ⟨pL, cL, by rw [hel]; rfl, ?_⟩
    rw [hel]
    exact Sls.of hs11 hcs.mono hel.symm
theorem rawmade_fn {h : Heap} {v : Value} {r0 c0 n : Nat} {l : List Int} (hv : RawMat h v r0 c0 l) (hr : r0 ≤ 255) (hc : c0 ≤ 255) (hn : n ≤ 99) :
    Fn Try.prog 22 #[v, .int .i64 (n : Int)] h fun r h' => MatAt h' r (r0 % (n + 1) : Nat) (c0 % (n + 1) : Nat) (matL l (r0 % (n + 1)) (c0 % (n + 1))) := by
  have hv0 := hv
  obtain ⟨p, kk, rfl, hl⟩ := hv
  have m1 : r0 % (n + 1) < n + 1 := Nat.mod_lt _ (by omega)
  have m2 : c0 % (n + 1) < n + 1 := Nat.mod_lt _ (by omega)
  refine Fn.intro (args := [_, _]) Try.func22 rfl rfl (Nat.le_of_ble_eq_true rfl) fun w => ?_
  refine J.seq ?_
  refine J.region ?_
  first | refine o_bx (v := .agg _) rfl rfl (fun b2 => ?_) | refine o_bx rfl rfl (fun b2 => ?_)
  refine o_al (fun b4 => ?_)
  refine JL.nil ?_
  refine J.seq ?_
  refine J.drawA [14] ?_
  refine JD.load 0 (by kernel_rfl) rfl trivial (q_lda (vs := [_, _, _]) rfl inferInstance ⟨rfl, rfl, rfl, trivial⟩) ?_
  refine JD.calc 1 (by kernel_rfl) rfl trivial ss_sub (q_fa rfl) ?_
  refine JD.load 2 (by kernel_rfl) rfl trivial (q_ld rfl inferInstance rfl) ?_
  refine JD.calc 3 (by kernel_rfl) rfl trivial ss_sub (q_cv (c := (r0 : Int)) rfl (wi64 (by omega))) ?_
  first | refine JD.calc 4 (by kernel_rfl) rfl trivial ss_sub (q_mvv (v := .int _ _) rfl) ?_ | refine JD.calc 4 (by kernel_rfl) rfl trivial ss_sub (q_mv) ?_
  refine JD.calc 5 (by kernel_rfl) rfl trivial ss_sub (q_add (c := ((n + 1 : Nat) : Int)) rfl rfl (by rw [wi64 (by omega)]; omega)) ?_
  refine JD.calc 6 (by kernel_rfl) rfl trivial ss_sub (q_rem (c := ((r0 % (n + 1) : Nat) : Int)) rfl rfl (by omega) rfl) ?_
  refine JD.calc 7 (by kernel_rfl) rfl trivial ss_sub (q_fa rfl) ?_
  refine JD.load 8 (by kernel_rfl) rfl trivial (q_ld rfl inferInstance rfl) ?_
  refine JD.calc 9 (by kernel_rfl) rfl trivial ss_sub (q_cv (c := (c0 : Int)) rfl (wi64 (by omega))) ?_
  first | refine JD.calc 10 (by kernel_rfl) rfl trivial ss_sub (q_mvv (v := .int _ _) rfl) ?_ | refine JD.calc 10 (by kernel_rfl) rfl trivial ss_sub (q_mv) ?_
  refine JD.calc 11 (by kernel_rfl) rfl trivial ss_sub (q_add (c := ((n + 1 : Nat) : Int)) rfl rfl (by rw [wi64 (by omega)]; omega)) ?_
  refine JD.calc 12 (by kernel_rfl) rfl trivial ss_sub (q_rem (c := ((c0 % (n + 1) : Nat) : Int)) rfl rfl (by omega) rfl) ?_
  refine JD.one 13 (by kernel_rfl) ?_
  refine JX.eff rfl rfl trivial ?_
  refine o_call (sized_fn (rows := r0 % (n + 1)) (cols := c0 % (n + 1)) hv0 (by omega) (by omega)) (fun r h1 s1 hr1 => ?_)
  obtain ⟨pr, cr2, rfl, hm⟩ := hr1
  refine JL.nil ⟨rfl, inferInstance, inferInstance, ?_⟩
  refine JD.one 14 (by kernel_rfl) ?_
  refine JX.mut rfl rfl trivial ?_
  refine o_stw (vs := [_, _, _]) rfl rfl rfl inferInstance rfl rfl ?_
  refine JL.nil ⟨rfl, ?_⟩
  refine JD.done (by kernel_rfl) ?_ _
  refine J.ret ?_
  exact ret_ok (fn := Try.f22) rfl (.agg rfl inferInstance inferInstance .nil) ⟨_, _, rfl, hm⟩
end Go.Z
