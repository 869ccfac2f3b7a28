/- Times of the sparse matrices, walked. -/
import Derived.Test.YtjdfhlkpfjhjoaaSp6
import Derived.Test.YtjdfhlkpfjhjoaaR3
set_option linter.unusedSimpArgs false
set_option linter.unusedVariables false
namespace Go.Z
open Go Go.RowKit Go.Proofs
def addT (x : Int) (out : List Int) (t : Int × Int) : List Int := out.set t.1.toNat (out.getD t.1.toNat 0 + x * t.2)
def rowT (x : Int) (out : List Int) (r : List (Int × Int)) : List Int := r.foldl (addT x) out
def timesL (v : List Int) (L : List (List (Int × Int))) (out : List Int) : List Int := (v.zip L).foldl (fun out p => rowT p.1 out p.2) out
theorem rowT_succ {x : Int} {out : List Int} {r : List (Int × Int)} {j : Nat} {t : Int × Int} (h : r[j]? = some t) : rowT x out (r.take (j + 1)) = addT x (rowT x out (r.take j)) t := by
  unfold rowT; rw [List.take_add_one, h]; simp
theorem zip_take {α β : Type} : ∀ (v : List α) (L : List β) (i : Nat), (v.take i).zip (L.take i) = (v.zip L).take i
  | _, _, 0 => rfl
  | [], _, _ + 1 => by simp
  | _ :: _, [], _ + 1 => by simp
  | x :: v, y :: L, i + 1 => by simp [zip_take v L i]
theorem timesL_succ {v out : List Int} {L : List (List (Int × Int))} {i : Nat} {x : Int} {r : List (Int × Int)} (hx : v[i]? = some x) (hr : L[i]? = some r) : timesL (v.take (i + 1)) (L.take (i + 1)) out = rowT x (timesL (v.take i) (L.take i) out) r := by
  have hz : (v.zip L)[i]? = some (x, r) := by rw [List.getElem?_zip_eq_some]; exact ⟨hx, hr⟩
  unfold timesL
  rw [zip_take, zip_take, List.take_add_one, hz]; simp
theorem addT_len (x : Int) (out : List Int) (t : Int × Int) : (addT x out t).length = out.length := by simp [addT]
theorem addT_bnd {x : Int} {out : List Int} {t : Int × Int} {N M : Nat} (h : ∀ z ∈ out, z.natAbs ≤ N) (hM : (x * t.2).natAbs ≤ M) : ∀ z ∈ addT x out t, z.natAbs ≤ N + M := fun z hz => by
  rcases List.mem_or_eq_of_mem_set hz with h1 | rfl
  · have := h z h1; omega
  · have h2 : (out.getD t.1.toNat 0).natAbs ≤ N := by
      rw [List.getD_eq_getElem?_getD]
      cases e : out[t.1.toNat]? with
      | none => simp
      | some y => exact h y (List.mem_of_getElem? e)
    have := Int.natAbs_add_le (out.getD t.1.toNat 0) (x * t.2)
    omega
def KK : Nat := 1000000000000
theorem KK_eq : KK = 1000000000000 := rfl
theorem kk1 (n j : Nat) : (n + (j + 1)) * KK = (n + j) * KK + KK := Nat.succ_mul _ _
theorem kk2 (i : Nat) : (i + 1) * 1000 * KK = (i * 1000 + 1000) * KK := by rw [Nat.succ_mul]
theorem kk3 {n : Nat} (h : n ≤ 1000000) : n * KK ≤ 1000000000000000000 := Nat.le_trans (Nat.mul_le_mul_right KK h) (by rw [KK_eq]; decide)
theorem abs_mul_le {x y : Int} {M N : Nat} (hx : x.natAbs ≤ M) (hy : y.natAbs ≤ N) : (x * y).natAbs ≤ M * N := by rw [Int.natAbs_mul]; exact Nat.mul_le_mul hx hy
set_option maxHeartbeats 4000000 in
set_option maxRecDepth 8000 in
theorem times_fn {h : Heap} {vv vs : Value} {v : List Int} {rows cols : Int} {M : List (List (Int × Int))} (hv : VecAt h vv v) (hs : SparseAt h vs rows cols (crs M)) (hrows : (v.length : Int) = rows) (hM : M.length = v.length) (hc : 0 ≤ cols ∧ cols ≤ 1000000) (hl : v.length ≤ 1000) (hMr : ∀ r ∈ M, r.length ≤ 1000) (hcol : ∀ r ∈ M, ∀ t ∈ r, 0 ≤ t.1 ∧ t.1 < cols) (hvb : ∀ x ∈ v, x.natAbs ≤ 1000000) (hMb : ∀ r ∈ M, ∀ t ∈ r, t.2.natAbs ≤ 1000000) :
    Fn Try.prog 31 #[vv, vs] h fun r h' => ∃ p n c, r = .tuple ⟨[.slice p n c, .int .i64 0]⟩ ∧ VecAt h' (.slice p n c) (timesL v M (List.replicate cols.toNat 0)) := by
  obtain ⟨pv, cv, rfl, hcv⟩ := hv.out
  obtain ⟨pL, cL, rfl, hL⟩ := hs
  have eM : (crs M).length = M.length := List.length_map ..
  refine Fn.intro (args := [_, _]) Try.func31 rfl rfl (Nat.le_of_ble_eq_true rfl) fun w => ?_
  refine J.seq ?_
  refine J.region ?_
  first | refine o_bx (v := .agg _) rfl rfl (fun b3 => ?_) | refine o_bx rfl rfl (fun b3 => ?_)
  refine o_q (q_as) ?_
  refine o_q (q_as) ?_
  refine JL.nil ?_
  refine J.seq ?_
  refine J.seq ?_
  refine J.region ?_
  first | refine o_q (q_mvv (v := .slice _ _ _) rfl) ?_ | refine o_q (q_mv) ?_
  refine o_q (q_len rfl) ?_
  refine o_q (q_fa rfl) ?_
  refine o_q (q_ld rfl inferInstance rfl) ?_
  refine o_q (q_neq rfl rfl) ?_
  refine JL.nil ?_
  refine J.condF rfl (decide_eq_false (fun e => e hrows)) ?_
  refine J.skip ?_
  refine J.seq ?_
  refine J.region ?_
  refine o_q (q_fa rfl) ?_
  refine o_q (q_ld rfl inferInstance rfl) ?_
  refine o_mk (n := cols.toNat) (m := cols.toNat) rfl rfl (by omega) (by omega) (Nat.le_refl _) (by omega) (by omega) (fun b18 => ?_)
  first | refine o_q (q_asv (v := .slice _ _ _) rfl) ?_ | refine o_q (q_as) ?_
  refine JL.nil ?_
  -- cut: kept [6], said []
  first | refine J.cutK (α := List Value) (fun cs h' L' => (timesL v M (List.replicate cols.toNat 0)).length = cols.toNat ∧ Cells IntR 2 h' cs (timesL v M (List.replicate cols.toNat 0)) ∧ List.Sublist [(b18, row 37 cs)] L') [(6, .slice _ _ _)] ⟨rfl, trivial⟩ (fun _ => []) ?_ ?_ | refine J.cutK (α := List Value) (fun cs h' L' => (timesL v M (List.replicate cols.toNat 0)).length = cols.toNat ∧ Cells IntR 2 h' cs (timesL v M (List.replicate cols.toNat 0)) ∧ List.Sublist [(b18, row 37 cs)] L') [(6, _)] ⟨rfl, trivial⟩ (fun _ => []) ?_ ?_
  ·
    refine J.seq ?_
    refine J.region ?_
    refine o_q (q_fa rfl) ?_
    refine o_q (q_ld rfl inferInstance rfl) ?_
    refine o_q (q_len rfl) ?_
    refine o_q (q_mv) ?_
    refine JL.nil ?_
    refine J.block ?_
    -- loop 0: kept [0, 6, 20, 21], said [22]
    first | refine J.loopK (α := Nat × List Value) (fun ⟨i, cs⟩ h' L' => i ≤ M.length ∧ (timesL (v.take i) (M.take i) (List.replicate cols.toNat 0)).length = cols.toNat ∧ Cells IntR 2 h' cs ((timesL (v.take i) (M.take i) (List.replicate cols.toNat 0))) ∧ (∀ z ∈ (timesL (v.take i) (M.take i) (List.replicate cols.toNat 0)), z.natAbs ≤ i * 1000 * KK) ∧ List.Sublist [(b18, row 37 cs), (b3, row 24 [.int .i64 rows, .int .i64 cols, .slice pL (crs M).length cL])] L') [(0, .slice _ _ _), (6, .slice _ _ _), (20, .slice _ _ _), (21, .int _ _)] ⟨rfl, rfl, rfl, rfl, trivial⟩ (fun ⟨i, cs⟩ => [(22, .int .i64 (i : Int))]) (fun x => M.length - x.1) ((0, _)) ⟨by omega, by simp [timesL], (by simpa [timesL] using Cells.rep rfl (IntR.zero h) cols.toNat), by simp [timesL], List.Sublist.refl _⟩ ⟨rfl, trivial⟩ ?_ | refine J.loopK (α := Nat × List Value) (fun ⟨i, cs⟩ h' L' => i ≤ M.length ∧ (timesL (v.take i) (M.take i) (List.replicate cols.toNat 0)).length = cols.toNat ∧ Cells IntR 2 h' cs ((timesL (v.take i) (M.take i) (List.replicate cols.toNat 0))) ∧ (∀ z ∈ (timesL (v.take i) (M.take i) (List.replicate cols.toNat 0)), z.natAbs ≤ i * 1000 * KK) ∧ List.Sublist [(b18, row 37 cs), (b3, row 24 [.int .i64 rows, .int .i64 cols, .slice pL (crs M).length cL])] L') [(0, _), (6, _), (20, _), (21, _)] ⟨rfl, rfl, rfl, rfl, trivial⟩ (fun ⟨i, cs⟩ => [(22, .int .i64 (i : Int))]) (fun x => M.length - x.1) ((0, _)) ⟨by omega, by simp [timesL], (by simpa [timesL] using Cells.rep rfl (IntR.zero h) cols.toNat), by simp [timesL], List.Sublist.refl _⟩ ⟨rfl, trivial⟩ ?_
    rintro ⟨i, cs⟩ σ h1 L1 s1 ⟨hi, hol, hcs, hbn, hsub⟩
    refine J.sub hsub ?_
    refine J.seq ?_
    refine J.region ?_
    refine o_q (q_lss rfl rfl) ?_
    refine JL.nil ?_
    refine J.seq ?_
    refine J.condD rfl (fun c0 => ?_) (fun c0 => ?_)
    ·
      obtain ⟨r, hr⟩ := lt_get (show i < M.length by omega)
      obtain ⟨x, hx⟩ := lt_get (show i < v.length by omega)
      obtain ⟨kr, or, qr, mr, nr, rfl, hcr, hrr⟩ := Sls.row hL (map_get (f := cr) hr)
      obtain ⟨kv, ov, qv, nv, rfl, hcv1, hnv, hmv⟩ := Sls.int hv hx
      have mr := List.mem_of_getElem? hr
      have mx := hvb x (List.mem_of_getElem? hx)
      have rl := hMr r mr
      obtain ⟨pw, cw, ew, hcw⟩ := hrr.out
      cases ew
      have er : (cr r).length = r.length := List.length_map ..
      refine J.skip ?_
      -- cut: kept [0, 6, 20, 21, 22], said []
      first | refine J.cutK (α := List Value) (fun cs h' L' => (rowT x (timesL (v.take i) (M.take i) (List.replicate cols.toNat 0)) r).length = cols.toNat ∧ Cells IntR 2 h' cs ((rowT x (timesL (v.take i) (M.take i) (List.replicate cols.toNat 0)) r)) ∧ (∀ z ∈ (rowT x (timesL (v.take i) (M.take i) (List.replicate cols.toNat 0)) r), z.natAbs ≤ (i * 1000 + 1000) * KK) ∧ List.Sublist [(b18, row 37 cs), (b3, row 24 [.int .i64 rows, .int .i64 cols, .slice (some ⟨kr, or, none⟩) (crs M).length cL])] L') [(0, .slice _ _ _), (6, .slice _ _ _), (20, .slice _ _ _), (21, .int _ _), (22, .int _ _)] ⟨rfl, rfl, rfl, rfl, rfl, trivial⟩ (fun _ => []) ?_ ?_ | refine J.cutK (α := List Value) (fun cs h' L' => (rowT x (timesL (v.take i) (M.take i) (List.replicate cols.toNat 0)) r).length = cols.toNat ∧ Cells IntR 2 h' cs ((rowT x (timesL (v.take i) (M.take i) (List.replicate cols.toNat 0)) r)) ∧ (∀ z ∈ (rowT x (timesL (v.take i) (M.take i) (List.replicate cols.toNat 0)) r), z.natAbs ≤ (i * 1000 + 1000) * KK) ∧ List.Sublist [(b18, row 37 cs), (b3, row 24 [.int .i64 rows, .int .i64 cols, .slice (some ⟨kr, or, none⟩) (crs M).length cL])] L') [(0, _), (6, _), (20, _), (21, _), (22, _)] ⟨rfl, rfl, rfl, rfl, rfl, trivial⟩ (fun _ => []) ?_ ?_
      ·
        refine J.block ?_
        refine J.seq ?_
        refine J.region ?_
        first | refine o_q (q_mvv (v := .int _ _) rfl) ?_ | refine o_q (q_mv) ?_
        refine o_q (q_ia rfl rfl (by omega)) ?_
        refine o_q (q_ldf rfl hcr) ?_
        first | refine o_q (q_asv (v := .int _ _) rfl) ?_ | refine o_q (q_as) ?_
        first | refine o_q (q_asv (v := .slice _ _ _) rfl) ?_ | refine o_q (q_as) ?_
        refine JL.nil ?_
        refine J.seq ?_
        refine J.region ?_
        first | refine o_q (q_mvv (v := .slice _ _ _) rfl) ?_ | refine o_q (q_mv) ?_
        refine o_q (q_len rfl) ?_
        refine o_q (q_mv) ?_
        refine JL.nil ?_
        refine J.block ?_
        -- loop 1: kept [0, 6, 7, 20, 21, 22, 27, 28], said [29]
        first | refine J.loopK (α := Nat × List Value) (fun ⟨j, cs⟩ h' L' => j ≤ r.length ∧ (rowT x (timesL (v.take i) (M.take i) (List.replicate cols.toNat 0)) (r.take j)).length = cols.toNat ∧ Cells IntR 2 h' cs ((rowT x (timesL (v.take i) (M.take i) (List.replicate cols.toNat 0)) (r.take j))) ∧ (∀ z ∈ (rowT x (timesL (v.take i) (M.take i) (List.replicate cols.toNat 0)) (r.take j)), z.natAbs ≤ (i * 1000 + j) * KK) ∧ List.Sublist [(b18, row 37 cs), (b3, row 24 [.int .i64 rows, .int .i64 cols, .slice (some ⟨kr, or, none⟩) (crs M).length cL])] L') [(0, .slice _ _ _), (6, .slice _ _ _), (7, .int _ _), (20, .slice _ _ _), (21, .int _ _), (22, .int _ _), (27, .slice _ _ _), (28, .int _ _)] ⟨rfl, rfl, rfl, rfl, rfl, rfl, rfl, rfl, trivial⟩ (fun ⟨j, cs⟩ => [(29, .int .i64 (j : Int))]) (fun x => r.length - x.1) ((0, cs)) ⟨by omega, hol, hcs.mono, hbn, List.Sublist.refl _⟩ ⟨rfl, trivial⟩ ?_ | refine J.loopK (α := Nat × List Value) (fun ⟨j, cs⟩ h' L' => j ≤ r.length ∧ (rowT x (timesL (v.take i) (M.take i) (List.replicate cols.toNat 0)) (r.take j)).length = cols.toNat ∧ Cells IntR 2 h' cs ((rowT x (timesL (v.take i) (M.take i) (List.replicate cols.toNat 0)) (r.take j))) ∧ (∀ z ∈ (rowT x (timesL (v.take i) (M.take i) (List.replicate cols.toNat 0)) (r.take j)), z.natAbs ≤ (i * 1000 + j) * KK) ∧ List.Sublist [(b18, row 37 cs), (b3, row 24 [.int .i64 rows, .int .i64 cols, .slice (some ⟨kr, or, none⟩) (crs M).length cL])] L') [(0, _), (6, _), (7, _), (20, _), (21, _), (22, _), (27, _), (28, _)] ⟨rfl, rfl, rfl, rfl, rfl, rfl, rfl, rfl, trivial⟩ (fun ⟨j, cs⟩ => [(29, .int .i64 (j : Int))]) (fun x => r.length - x.1) ((0, cs)) ⟨by omega, hol, hcs.mono, hbn, List.Sublist.refl _⟩ ⟨rfl, trivial⟩ ?_
        rintro ⟨j, cs⟩ σ2 h2 L2 s2 ⟨hj, hol2, hcs2, hbn2, hsub2⟩
        refine J.sub hsub2 ?_
        refine J.seq ?_
        refine J.region ?_
        refine o_q (q_lss rfl rfl) ?_
        refine JL.nil ?_
        refine J.seq ?_
        refine J.condD rfl (fun c2 => ?_) (fun c2 => ?_)
        ·
          obtain ⟨t, ht⟩ := lt_get (show j < r.length by omega)
          obtain ⟨kx, ox, qx, nx, rfl, hcx0, hcx1, hcx, hnx, hmx⟩ := Sls.term hrr (map_get (f := tm) ht)
          have mt := List.mem_of_getElem? ht
          have hct := hcol r mr t mt
          have hmt := hMb r mr t mt
          obtain ⟨y, hy⟩ := lt_get (l := rowT x (timesL (v.take i) (M.take i) (List.replicate cols.toNat 0)) (r.take j)) (show t.1.toNat < (rowT x (timesL (v.take i) (M.take i) (List.replicate cols.toNat 0)) (r.take j)).length by omega)
          obtain ⟨us, hlk, ⟨py, ky, rfl, hky, hmy⟩, hul⟩ := hcs2.look hy
          have hyb := hbn2 y (List.mem_of_getElem? hy)
          have hxt := abs_mul_le mx hmt
          have hij := kk3 (n := i * 1000 + j) (by omega)
          have hadd := Int.natAbs_add_le y (x * t.2)
          refine J.skip ?_
          refine J.seq ?_
          refine J.block ?_
          refine J.seq ?_
          refine J.region ?_
          refine o_q (q_ia rfl rfl (by omega)) ?_
          refine o_q (q_ldfa rfl hcx) ?_
          refine o_al (fun b10 => ?_)
          refine o_stw (vs := [_, _, _]) rfl rfl rfl inferInstance rfl rfl ?_
          refine JL.nil ?_
          refine J.drawA [17] ?_
          first | refine JD.calc 0 (by kernel_rfl) rfl trivial ss_sub (q_mvv (v := .slice _ _ _) rfl) ?_ | refine JD.calc 0 (by kernel_rfl) rfl trivial ss_sub (q_mv) ?_
          refine JD.calc 1 (by kernel_rfl) rfl trivial ss_sub (q_fa rfl) ?_
          refine JD.load 2 (by kernel_rfl) rfl trivial (q_ld rfl inferInstance rfl) ?_
          first | refine JD.calc 3 (by kernel_rfl) rfl trivial ss_sub (q_mvv (v := .slice _ _ _) rfl) ?_ | refine JD.calc 3 (by kernel_rfl) rfl trivial ss_sub (q_mv) ?_
          refine JD.calc 4 (by kernel_rfl) rfl trivial ss_sub (q_fa rfl) ?_
          refine JD.load 5 (by kernel_rfl) rfl trivial (q_ld rfl inferInstance rfl) ?_
          refine JD.calc 6 (by kernel_rfl) rfl trivial ss_sub (q_ia rfl rfl (by show 0 ≤ t.1 ∧ t.1 < _; omega)) ?_
          refine JD.load 7 (by kernel_rfl) rfl trivial (q_lda (vs := [_, _]) rfl inferInstance hlk) ?_
          first | refine JD.calc 8 (by kernel_rfl) rfl trivial ss_sub (q_mvv (v := .slice _ _ _) rfl) ?_ | refine JD.calc 8 (by kernel_rfl) rfl trivial ss_sub (q_mv) ?_
          first | refine JD.calc 9 (by kernel_rfl) rfl trivial ss_sub (q_mvv (v := .int _ _) rfl) ?_ | refine JD.calc 9 (by kernel_rfl) rfl trivial ss_sub (q_mv) ?_
          refine JD.calc 10 (by kernel_rfl) rfl trivial ss_sub (q_ia rfl rfl (by omega)) ?_
          refine JD.load 11 (by kernel_rfl) rfl trivial (q_ldfa rfl hcv1) ?_
          refine JD.calc 12 (by kernel_rfl) rfl trivial ss_sub (q_fa rfl) ?_
          refine JD.load 13 (by kernel_rfl) rfl trivial (q_lda (vs := [_, _]) rfl inferInstance ⟨rfl, rfl, trivial⟩) ?_
          refine JD.one 14 (by kernel_rfl) ?_
          refine JX.eff rfl rfl trivial ?_
          refine o_call (mul_fn ⟨_, rfl, hmv.mono⟩ ⟨_, rfl, hmx.mono⟩ (fit64 (by omega)) (fit64 (by omega))) (fun v47 h47 s47 hr47 => ?_)
          refine JL.nil ⟨rfl, inferInstance, inferInstance, ?_⟩
          refine JD.one 15 (by kernel_rfl) ?_
          refine JX.eff rfl rfl trivial ?_
          refine o_call (add_fn (x := y) ⟨_, rfl, hmy.mono⟩ hr47.mono (fit64 (by omega)) (fit64 (by omega))) (fun v48 h48 s48 hr48 => ?_)
          obtain ⟨pz, cz, rfl, hcz, hmz⟩ := hr48.out
          refine JL.nil ⟨rfl, inferInstance, inferInstance, ?_⟩
          refine JD.calc 16 (by kernel_rfl) rfl trivial ss_sub (q_ia rfl rfl (by show 0 ≤ t.1 ∧ t.1 < _; omega)) ?_
          refine JD.one 17 (by kernel_rfl) ?_
          refine JX.mut rfl rfl trivial ?_
          refine o_sta (vs := [_, _]) rfl rfl rfl inferInstance rfl (by rw [hcs2.1]; show 0 + t.1.toNat * 2 + 2 ≤ _; omega) ?_
          refine JL.nil ⟨rfl, ?_⟩
          refine JD.done (by kernel_rfl) ?_ _
          refine J.region ?_
          refine o_q (q_add (c := ((j + 1 : Nat) : Int)) rfl rfl (by rw [wi64 (by omega)]; omega)) ?_
          first | refine o_q (q_mvv (v := .int _ _) rfl) ?_ | refine o_q (q_mv) ?_
          refine JL.nil ?_
          have hadd2 : addT x (rowT x (timesL (v.take i) (M.take i) (List.replicate cols.toNat 0)) (r.take j)) t = (rowT x (timesL (v.take i) (M.take i) (List.replicate cols.toNat 0)) (r.take j)).set t.1.toNat (y + x * t.2) := by unfold addT; rw [List.getD_eq_getElem?_getD, hy]; rfl
          exact ⟨(j + 1, _), rfl, ⟨rfl, rfl, rfl, rfl, rfl, rfl, rfl, rfl, trivial⟩, ⟨rfl, trivial⟩, ⟨by omega, (by rw [rowT_succ ht, addT_len]; exact hol2), (by rw [rowT_succ ht, hadd2]; exact hcs2.mono.set (by omega) rfl ⟨_, _, rfl, hcz, hmz.mono⟩), (by rw [rowT_succ ht]; have := addT_bnd hbn2 hxt; intro z hz; have := this z hz; rw [kk1]; exact Nat.le_trans this (Nat.add_le_add_left (by rw [KK_eq]; decide) _)), (by repeat' first | exact List.Sublist.refl _ | apply List.Sublist.cons_cons | apply List.Sublist.cons)⟩, by show r.length - (j + 1) < r.length - j; omega, inferInstance⟩
        ·
          refine J.exit ?_
          obtain rfl : j = r.length := by omega
          rw [List.take_length] at hol2 hcs2 hbn2
          exact ⟨cs, rfl, ⟨rfl, rfl, rfl, rfl, rfl, trivial⟩, trivial, ⟨hol2, hcs2, fun z hz => Nat.le_trans (hbn2 z hz) (Nat.mul_le_mul_right KK (by omega)), List.Sublist.refl _⟩, inferInstance⟩
      ·
        rintro cs σ8 h8 L8 s8 ⟨hol8, hcs8, hbn8, hsub8⟩
        refine J.sub hsub8 ?_
        refine J.region ?_
        refine o_q (q_add (c := ((i + 1 : Nat) : Int)) rfl rfl (by rw [wi64 (by omega)]; omega)) ?_
        first | refine o_q (q_mvv (v := .int _ _) rfl) ?_ | refine o_q (q_mv) ?_
        refine JL.nil ?_
        exact ⟨(i + 1, cs), rfl, ⟨rfl, rfl, rfl, rfl, trivial⟩, ⟨rfl, trivial⟩, ⟨by omega, (by rw [timesL_succ hx hr]; exact hol8), (by rw [timesL_succ hx hr]; exact hcs8.mono), (by rw [timesL_succ hx hr, kk2]; exact hbn8), List.Sublist.refl _⟩, by show M.length - (i + 1) < M.length - i; omega, inferInstance⟩
    ·
      refine J.exit ?_
      obtain rfl : i = M.length := by omega
      rw [List.take_length, hM, List.take_length] at hcs hol
      exact ⟨cs, rfl, ⟨rfl, trivial⟩, trivial, ⟨hol, hcs, by repeat' first | exact List.Sublist.refl _ | apply List.Sublist.cons_cons | exact List.nil_sublist _⟩, inferInstance⟩
  ·
    rintro cs σ9 h9 L9 s9 ⟨hol, hcs, hsub⟩
    refine J.sub hsub ?_
    refine J.seq ?_
    refine J.fz b18 (fun h11 s11 hb11 => ?_)
    refine J.region ?_
    first | refine o_q (q_mvv (v := .slice _ _ _) rfl) ?_ | refine o_q (q_mv) ?_
    first | refine o_q (q_asv (v := .slice _ _ _) rfl) ?_ | refine o_q (q_as) ?_
    refine o_q (q_as) ?_
    refine JL.nil ?_
    refine J.ret ?_
    refine ret_ok (fn := Try.f31) rfl (.tmp rfl (.tmp rfl .nil)) ?_
    refine ⟨_, _, _, rfl, Sls.of (n := cols.toNat) ⟨_, _, rfl, Nat.le_refl _, by rw [hcs.1, hol], .inr ⟨b18, 0, rfl, _, _, _, hb11, LookN.all _⟩⟩ hcs.mono hol.symm⟩
end Go.Z
