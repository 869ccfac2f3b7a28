/- Texts of ours, joined: Sp7, Lits, Prim1, Maps, Maps2, Own2, Own3, Ty2, Sp8, PSan. -/
import Derived.Test.YtjdfhlkpfjhjoaaX8
import Derived.Test.YtjdfhlkpfjhjoaaX3
import Derived.Test.YtjdfhlkpfjhjoaaX4
import Derived.Test.YtjdfhlkpfjhjoaaX1
import Derived.Test.YtjdfhlkpfjhjoaaX5
import Derived.Test.YtjdfhlkpfjhjoaaProg
section
set_option linter.unusedSimpArgs false
set_option linter.unusedVariables false
/- Times of the sparse matrices, walked. -/
set_option linter.unusedSimpArgs false
set_option linter.unusedVariables false
namespace Go.Z
open Go Go.RowKit Go.Proofs
def addT (x : Int) (out : List Int) (t : Int × Int) : List Int := out.set t.1.toNat (out.getD t.1.toNat 0 + x * t.2)
def rowT (x : Int) (out : List Int) (r : List (Int × Int)) : List Int := r.foldl (addT x) out
def timesL (v : List Int) (L : List (List (Int × Int))) (out : List Int) : List Int := (v.zip L).foldl (fun out p => rowT p.1 out p.2) out
theorem rowT_succ {x : Int} {out : List Int} {r : List (Int × Int)} {j : Nat} {t : Int × Int} (h : r[j]? = some t) : rowT x out (r.take (j + 1)) = addT x (rowT x out (r.take j)) t := by
  unfold rowT; rw [List.take_add_one, h]; simp
theorem zip_take {α β : Type} : ∀ (v : List α) (L : List β) (i : Nat), (v.take i).zip (L.take i) = (v.zip L).take i
  | _, _, 0 => rfl
  | [], _, _ + 1 => by simp
  | _ :: _, [], _ + 1 => by simp
  | x :: v, y :: L, i + 1 => by simp [zip_take v L i]
theorem timesL_succ {v out : List Int} {L : List (List (Int × Int))} {i : Nat} {x : Int} {r : List (Int × Int)} (hx : v[i]? = some x) (hr : L[i]? = some r) : timesL (v.take (i + 1)) (L.take (i + 1)) out = rowT x (timesL (v.take i) (L.take i) out) r := by
  have hz : (v.zip L)[i]? = some (x, r) := by rw [List.getElem?_zip_eq_some]; exact ⟨hx, hr⟩
  unfold timesL
  rw [zip_take, zip_take, List.take_add_one, hz]; simp
theorem addT_len (x : Int) (out : List Int) (t : Int × Int) : (addT x out t).length = out.length := by simp [addT]
theorem addT_bnd {x : Int} {out : List Int} {t : Int × Int} {N M : Nat} (h : ∀ z ∈ out, z.natAbs ≤ N) (hM : (x * t.2).natAbs ≤ M) : ∀ z ∈ addT x out t, z.natAbs ≤ N + M := fun z hz => by
  rcases List.mem_or_eq_of_mem_set hz with h1 | rfl
  · have := h z h1; omega
  · have h2 : (out.getD t.1.toNat 0).natAbs ≤ N := by
      rw [List.getD_eq_getElem?_getD]
      cases e : out[t.1.toNat]? with
      | none => simp
      | some y => exact h y (List.mem_of_getElem? e)
    have := Int.natAbs_add_le (out.getD t.1.toNat 0) (x * t.2)
    omega
def KK : Nat := 1000000000000
theorem KK_eq : KK = 1000000000000 := rfl
theorem kk1 (n j : Nat) : (n + (j + 1)) * KK = (n + j) * KK + KK := Nat.succ_mul _ _
theorem kk2 (i : Nat) : (i + 1) * 1000 * KK = (i * 1000 + 1000) * KK := by rw [Nat.succ_mul]
theorem kk3 {n : Nat} (h : n ≤ 1000000) : n * KK ≤ 1000000000000000000 := Nat.le_trans (Nat.mul_le_mul_right KK h) (by rw [KK_eq]; decide)
theorem abs_mul_le {x y : Int} {M N : Nat} (hx : x.natAbs ≤ M) (hy : y.natAbs ≤ N) : (x * y).natAbs ≤ M * N := by rw [Int.natAbs_mul]; exact Nat.mul_le_mul hx hy
set_option maxHeartbeats 4000000 in
set_option maxRecDepth 8000 in
theorem times_fn {h : Heap} {vv vs : Value} {v : List Int} {rows cols : Int} {M : List (List (Int × Int))} (hv : VecAt h vv v) (hs : SparseAt h vs rows cols (crs M)) (hrows : (v.length : Int) = rows) (hM : M.length = v.length) (hc : 0 ≤ cols ∧ cols ≤ 1000000) (hl : v.length ≤ 1000) (hMr : ∀ r ∈ M, r.length ≤ 1000) (hcol : ∀ r ∈ M, ∀ t ∈ r, 0 ≤ t.1 ∧ t.1 < cols) (hvb : ∀ x ∈ v, x.natAbs ≤ 1000000) (hMb : ∀ r ∈ M, ∀ t ∈ r, t.2.natAbs ≤ 1000000) :
    Fn Try.prog 31 #[vv, vs] h fun r h' => ∃ p n c, r = .tuple ⟨[.slice p n c, .int .i64 0]⟩ ∧ VecAt h' (.slice p n c) (timesL v M (List.replicate cols.toNat 0)) := by
  obtain ⟨pv, cv, rfl, hcv⟩ := hv.out
  obtain ⟨pL, cL, rfl, hL⟩ := hs
  have eM : (crs M).length = M.length := List.length_map ..
  refine Fn.intro (args := [_, _]) Try.func31 rfl rfl (Nat.le_of_ble_eq_true rfl) fun w => ?_
  refine J.seq ?_
  refine J.region ?_
  first | refine o_bx (v := .agg _) rfl rfl (fun b3 => ?_) | refine o_bx rfl rfl (fun b3 => ?_)
  refine o_q (q_as) ?_
  refine o_q (q_as) ?_
  refine JL.nil ?_
  refine J.seq ?_
  refine J.seq ?_
  refine J.region ?_
  first | refine o_q (q_mvv (v := .slice _ _ _) rfl) ?_ | refine o_q (q_mv) ?_
  refine o_q (q_len rfl) ?_
  refine o_q (q_fa rfl) ?_
  refine o_q (q_ld rfl inferInstance rfl) ?_
  refine o_q (q_neq rfl rfl) ?_
  refine JL.nil ?_
  refine J.condF rfl (decide_eq_false (fun e => e hrows)) ?_
  refine J.skip ?_
  refine J.seq ?_
  refine J.region ?_
  refine o_q (q_fa rfl) ?_
  refine o_q (q_ld rfl inferInstance rfl) ?_
  refine o_mk (n := cols.toNat) (m := cols.toNat) rfl rfl (by omega) (by omega) (Nat.le_refl _) (by omega) (by omega) (fun b18 => ?_)
  first | refine o_q (q_asv (v := .slice _ _ _) rfl) ?_ | refine o_q (q_as) ?_
  refine JL.nil ?_
  -- cut: kept [6], said []
  first | refine J.cutK (α := List Value) (fun cs h' L' => (timesL v M (List.replicate cols.toNat 0)).length = cols.toNat ∧ Cells IntR 2 h' cs (timesL v M (List.replicate cols.toNat 0)) ∧ List.Sublist [(b18, row 37 cs)] L') [(6, .slice _ _ _)] ⟨rfl, trivial⟩ (fun _ => []) ?_ ?_ | refine J.cutK (α := List Value) (fun cs h' L' => (timesL v M (List.replicate cols.toNat 0)).length = cols.toNat ∧ Cells IntR 2 h' cs (timesL v M (List.replicate cols.toNat 0)) ∧ List.Sublist [(b18, row 37 cs)] L') [(6, _)] ⟨rfl, trivial⟩ (fun _ => []) ?_ ?_
  ·
    refine J.seq ?_
    refine J.region ?_
    refine o_q (q_fa rfl) ?_
    refine o_q (q_ld rfl inferInstance rfl) ?_
    refine o_q (q_len rfl) ?_
    refine o_q (q_mv) ?_
    refine JL.nil ?_
    refine J.block ?_
    -- loop 0: kept [0, 6, 20, 21], said [22]
    first | refine J.loopK (α := Nat × List Value) (fun ⟨i, cs⟩ h' L' => i ≤ M.length ∧ (timesL (v.take i) (M.take i) (List.replicate cols.toNat 0)).length = cols.toNat ∧ Cells IntR 2 h' cs ((timesL (v.take i) (M.take i) (List.replicate cols.toNat 0))) ∧ (∀ z ∈ (timesL (v.take i) (M.take i) (List.replicate cols.toNat 0)), z.natAbs ≤ i * 1000 * KK) ∧ List.Sublist [(b18, row 37 cs), (b3, row 24 [.int .i64 rows, .int .i64 cols, .slice pL (crs M).length cL])] L') [(0, .slice _ _ _), (6, .slice _ _ _), (20, .slice _ _ _), (21, .int _ _)] ⟨rfl, rfl, rfl, rfl, trivial⟩ (fun ⟨i, cs⟩ => [(22, .int .i64 (i : Int))]) (fun x => M.length - x.1) ((0, _)) ⟨by omega, by simp [timesL], (by simpa [timesL] using Cells.rep rfl (IntR.zero h) cols.toNat), by simp [timesL], List.Sublist.refl _⟩ ⟨rfl, trivial⟩ ?_ | refine J.loopK (α := Nat × List Value) (fun ⟨i, cs⟩ h' L' => i ≤ M.length ∧ (timesL (v.take i) (M.take i) (List.replicate cols.toNat 0)).length = cols.toNat ∧ Cells IntR 2 h' cs ((timesL (v.take i) (M.take i) (List.replicate cols.toNat 0))) ∧ (∀ z ∈ (timesL (v.take i) (M.take i) (List.replicate cols.toNat 0)), z.natAbs ≤ i * 1000 * KK) ∧ List.Sublist [(b18, row 37 cs), (b3, row 24 [.int .i64 rows, .int .i64 cols, .slice pL (crs M).length cL])] L') [(0, _), (6, _), (20, _), (21, _)] ⟨rfl, rfl, rfl, rfl, trivial⟩ (fun ⟨i, cs⟩ => [(22, .int .i64 (i : Int))]) (fun x => M.length - x.1) ((0, _)) ⟨by omega, by simp [timesL], (by simpa [timesL] using Cells.rep rfl (IntR.zero h) cols.toNat), by simp [timesL], List.Sublist.refl _⟩ ⟨rfl, trivial⟩ ?_
    rintro ⟨i, cs⟩ σ h1 L1 s1 ⟨hi, hol, hcs, hbn, hsub⟩
    refine J.sub hsub ?_
    refine J.seq ?_
    refine J.region ?_
    refine o_q (q_lss rfl rfl) ?_
    refine JL.nil ?_
    refine J.seq ?_
    refine J.condD rfl (fun c0 => ?_) (fun c0 => ?_)
    ·
      obtain ⟨r, hr⟩ := lt_get (show i < M.length by omega)
      obtain ⟨x, hx⟩ := lt_get (show i < v.length by omega)
      obtain ⟨kr, or, qr, mr, nr, rfl, hcr, hrr⟩ := Sls.row hL (map_get (f := cr) hr)
      obtain ⟨kv, ov, qv, nv, rfl, hcv1, hnv, hmv⟩ := Sls.int hv hx
      have mr := List.mem_of_getElem? hr
      have mx := hvb x (List.mem_of_getElem? hx)
      have rl := hMr r mr
      obtain ⟨pw, cw, ew, hcw⟩ := hrr.out
      cases ew
      have er : (cr r).length = r.length := List.length_map ..
      refine J.skip ?_
      -- cut: kept [0, 6, 20, 21, 22], said []
      first | refine J.cutK (α := List Value) (fun cs h' L' => (rowT x (timesL (v.take i) (M.take i) (List.replicate cols.toNat 0)) r).length = cols.toNat ∧ Cells IntR 2 h' cs ((rowT x (timesL (v.take i) (M.take i) (List.replicate cols.toNat 0)) r)) ∧ (∀ z ∈ (rowT x (timesL (v.take i) (M.take i) (List.replicate cols.toNat 0)) r), z.natAbs ≤ (i * 1000 + 1000) * KK) ∧ List.Sublist [(b18, row 37 cs), (b3, row 24 [.int .i64 rows, .int .i64 cols, .slice (some ⟨kr, or, none⟩) (crs M).length cL])] L') [(0, .slice _ _ _), (6, .slice _ _ _), (20, .slice _ _ _), (21, .int _ _), (22, .int _ _)] ⟨rfl, rfl, rfl, rfl, rfl, trivial⟩ (fun _ => []) ?_ ?_ | refine J.cutK (α := List Value) (fun cs h' L' => (rowT x (timesL (v.take i) (M.take i) (List.replicate cols.toNat 0)) r).length = cols.toNat ∧ Cells IntR 2 h' cs ((rowT x (timesL (v.take i) (M.take i) (List.replicate cols.toNat 0)) r)) ∧ (∀ z ∈ (rowT x (timesL (v.take i) (M.take i) (List.replicate cols.toNat 0)) r), z.natAbs ≤ (i * 1000 + 1000) * KK) ∧ List.Sublist [(b18, row 37 cs), (b3, row 24 [.int .i64 rows, .int .i64 cols, .slice (some ⟨kr, or, none⟩) (crs M).length cL])] L') [(0, _), (6, _), (20, _), (21, _), (22, _)] ⟨rfl, rfl, rfl, rfl, rfl, trivial⟩ (fun _ => []) ?_ ?_
      ·
        refine J.block ?_
        refine J.seq ?_
        refine J.region ?_
        first | refine o_q (q_mvv (v := .int _ _) rfl) ?_ | refine o_q (q_mv) ?_
        refine o_q (q_ia rfl rfl (by omega)) ?_
        refine o_q (q_ldf rfl hcr) ?_
        first | refine o_q (q_asv (v := .int _ _) rfl) ?_ | refine o_q (q_as) ?_
        first | refine o_q (q_asv (v := .slice _ _ _) rfl) ?_ | refine o_q (q_as) ?_
        refine JL.nil ?_
        refine J.seq ?_
        refine J.region ?_
        first | refine o_q (q_mvv (v := .slice _ _ _) rfl) ?_ | refine o_q (q_mv) ?_
        refine o_q (q_len rfl) ?_
        refine o_q (q_mv) ?_
        refine JL.nil ?_
        refine J.block ?_
        -- loop 1: kept [0, 6, 7, 20, 21, 22, 27, 28], said [29]
        first | refine J.loopK (α := Nat × List Value) (fun ⟨j, cs⟩ h' L' => j ≤ r.length ∧ (rowT x (timesL (v.take i) (M.take i) (List.replicate cols.toNat 0)) (r.take j)).length = cols.toNat ∧ Cells IntR 2 h' cs ((rowT x (timesL (v.take i) (M.take i) (List.replicate cols.toNat 0)) (r.take j))) ∧ (∀ z ∈ (rowT x (timesL (v.take i) (M.take i) (List.replicate cols.toNat 0)) (r.take j)), z.natAbs ≤ (i * 1000 + j) * KK) ∧ List.Sublist [(b18, row 37 cs), (b3, row 24 [.int .i64 rows, .int .i64 cols, .slice (some ⟨kr, or, none⟩) (crs M).length cL])] L') [(0, .slice _ _ _), (6, .slice _ _ _), (7, .int _ _), (20, .slice _ _ _), (21, .int _ _), (22, .int _ _), (27, .slice _ _ _), (28, .int _ _)] ⟨rfl, rfl, rfl, rfl, rfl, rfl, rfl, rfl, trivial⟩ (fun ⟨j, cs⟩ => [(29, .int .i64 (j : Int))]) (fun x => r.length - x.1) ((0, cs)) ⟨by omega, hol, hcs.mono, hbn, List.Sublist.refl _⟩ ⟨rfl, trivial⟩ ?_ | refine J.loopK (α := Nat × List Value) (fun ⟨j, cs⟩ h' L' => j ≤ r.length ∧ (rowT x (timesL (v.take i) (M.take i) (List.replicate cols.toNat 0)) (r.take j)).length = cols.toNat ∧ Cells IntR 2 h' cs ((rowT x (timesL (v.take i) (M.take i) (List.replicate cols.toNat 0)) (r.take j))) ∧ (∀ z ∈ (rowT x (timesL (v.take i) (M.take i) (List.replicate cols.toNat 0)) (r.take j)), z.natAbs ≤ (i * 1000 + j) * KK) ∧ List.Sublist [(b18, row 37 cs), (b3, row 24 [.int .i64 rows, .int .i64 cols, .slice (some ⟨kr, or, none⟩) (crs M).length cL])] L') [(0, _), (6, _), (7, _), (20, _), (21, _), (22, _), (27, _), (28, _)] ⟨rfl, rfl, rfl, rfl, rfl, rfl, rfl, rfl, trivial⟩ (fun ⟨j, cs⟩ => [(29, .int .i64 (j : Int))]) (fun x => r.length - x.1) ((0, cs)) ⟨by omega, hol, hcs.mono, hbn, List.Sublist.refl _⟩ ⟨rfl, trivial⟩ ?_
        rintro ⟨j, cs⟩ σ2 h2 L2 s2 ⟨hj, hol2, hcs2, hbn2, hsub2⟩
        refine J.sub hsub2 ?_
        refine J.seq ?_
        refine J.region ?_
        refine o_q (q_lss rfl rfl) ?_
        refine JL.nil ?_
        refine J.seq ?_
        refine J.condD rfl (fun c2 => ?_) (fun c2 => ?_)
        ·
          obtain ⟨t, ht⟩ := lt_get (show j < r.length by omega)
          obtain ⟨kx, ox, qx, nx, rfl, hcx0, hcx1, hcx, hnx, hmx⟩ := Sls.term hrr (map_get (f := tm) ht)
          have mt := List.mem_of_getElem? ht
          have hct := hcol r mr t mt
          have hmt := hMb r mr t mt
          obtain ⟨y, hy⟩ := lt_get (l := rowT x (timesL (v.take i) (M.take i) (List.replicate cols.toNat 0)) (r.take j)) (show t.1.toNat < (rowT x (timesL (v.take i) (M.take i) (List.replicate cols.toNat 0)) (r.take j)).length by omega)
          obtain ⟨us, hlk, ⟨py, ky, rfl, hky, hmy⟩, hul⟩ := hcs2.look hy
          have hyb := hbn2 y (List.mem_of_getElem? hy)
          have hxt := abs_mul_le mx hmt
          have hij := kk3 (n := i * 1000 + j) (by omega)
          have hadd := Int.natAbs_add_le y (x * t.2)
          refine J.skip ?_
          refine J.seq ?_
          refine J.block ?_
          refine J.seq ?_
          refine J.region ?_
          refine o_q (q_ia rfl rfl (by omega)) ?_
          refine o_q (q_ldfa rfl hcx) ?_
          refine o_al (fun b10 => ?_)
          refine o_stw (vs := [_, _, _]) rfl rfl rfl inferInstance rfl rfl ?_
          refine JL.nil ?_
          refine J.drawA [17] ?_
          first | refine JD.calc 0 (by kernel_rfl) rfl trivial ss_sub (q_mvv (v := .slice _ _ _) rfl) ?_ | refine JD.calc 0 (by kernel_rfl) rfl trivial ss_sub (q_mv) ?_
          refine JD.calc 1 (by kernel_rfl) rfl trivial ss_sub (q_fa rfl) ?_
          refine JD.load 2 (by kernel_rfl) rfl trivial (q_ld rfl inferInstance rfl) ?_
          first | refine JD.calc 3 (by kernel_rfl) rfl trivial ss_sub (q_mvv (v := .slice _ _ _) rfl) ?_ | refine JD.calc 3 (by kernel_rfl) rfl trivial ss_sub (q_mv) ?_
          refine JD.calc 4 (by kernel_rfl) rfl trivial ss_sub (q_fa rfl) ?_
          refine JD.load 5 (by kernel_rfl) rfl trivial (q_ld rfl inferInstance rfl) ?_
          refine JD.calc 6 (by kernel_rfl) rfl trivial ss_sub (q_ia rfl rfl (by show 0 ≤ t.1 ∧ t.1 < _; omega)) ?_
          refine JD.load 7 (by kernel_rfl) rfl trivial (q_lda (vs := [_, _]) rfl inferInstance hlk) ?_
          first | refine JD.calc 8 (by kernel_rfl) rfl trivial ss_sub (q_mvv (v := .slice _ _ _) rfl) ?_ | refine JD.calc 8 (by kernel_rfl) rfl trivial ss_sub (q_mv) ?_
          first | refine JD.calc 9 (by kernel_rfl) rfl trivial ss_sub (q_mvv (v := .int _ _) rfl) ?_ | refine JD.calc 9 (by kernel_rfl) rfl trivial ss_sub (q_mv) ?_
          refine JD.calc 10 (by kernel_rfl) rfl trivial ss_sub (q_ia rfl rfl (by omega)) ?_
          refine JD.load 11 (by kernel_rfl) rfl trivial (q_ldfa rfl hcv1) ?_
          refine JD.calc 12 (by kernel_rfl) rfl trivial ss_sub (q_fa rfl) ?_
          refine JD.load 13 (by kernel_rfl) rfl trivial (q_lda (vs := [_, _]) rfl inferInstance ⟨rfl, rfl, trivial⟩) ?_
          refine JD.one 14 (by kernel_rfl) ?_
          refine JX.eff rfl rfl trivial ?_
          refine o_call (mul_fn ⟨_, rfl, hmv.mono⟩ ⟨_, rfl, hmx.mono⟩ (fit64 (by omega)) (fit64 (by omega))) (fun v47 h47 s47 hr47 => ?_)
          refine JL.nil ⟨rfl, inferInstance, inferInstance, ?_⟩
          refine JD.one 15 (by kernel_rfl) ?_
          refine JX.eff rfl rfl trivial ?_
          refine o_call (add_fn (x := y) ⟨_, rfl, hmy.mono⟩ hr47.mono (fit64 (by omega)) (fit64 (by omega))) (fun v48 h48 s48 hr48 => ?_)
          obtain ⟨pz, cz, rfl, hcz, hmz⟩ := hr48.out
          refine JL.nil ⟨rfl, inferInstance, inferInstance, ?_⟩
          refine JD.calc 16 (by kernel_rfl) rfl trivial ss_sub (q_ia rfl rfl (by show 0 ≤ t.1 ∧ t.1 < _; omega)) ?_
          refine JD.one 17 (by kernel_rfl) ?_
          refine JX.mut rfl rfl trivial ?_
          refine o_sta (vs := [_, _]) rfl rfl rfl inferInstance rfl (by rw [hcs2.1]; show 0 + t.1.toNat * 2 + 2 ≤ _; omega) ?_
          refine JL.nil ⟨rfl, ?_⟩
          refine JD.done (by kernel_rfl) ?_ _
          refine J.region ?_
          refine o_q (q_add (c := ((j + 1 : Nat) : Int)) rfl rfl (by rw [wi64 (by omega)]; omega)) ?_
          first | refine o_q (q_mvv (v := .int _ _) rfl) ?_ | refine o_q (q_mv) ?_
          refine JL.nil ?_
          have hadd2 : addT x (rowT x (timesL (v.take i) (M.take i) (List.replicate cols.toNat 0)) (r.take j)) t = (rowT x (timesL (v.take i) (M.take i) (List.replicate cols.toNat 0)) (r.take j)).set t.1.toNat (y + x * t.2) := by unfold addT; rw [List.getD_eq_getElem?_getD, hy]; rfl
          exact ⟨(j + 1, _), rfl, ⟨rfl, rfl, rfl, rfl, rfl, rfl, rfl, rfl, trivial⟩, ⟨rfl, trivial⟩, ⟨by omega, (by rw [rowT_succ ht, addT_len]; exact hol2), (by rw [rowT_succ ht, hadd2]; exact hcs2.mono.set (by omega) rfl ⟨_, _, rfl, hcz, hmz.mono⟩), (by rw [rowT_succ ht]; have := addT_bnd hbn2 hxt; intro z hz; have := this z hz; rw [kk1]; exact Nat.le_trans this (Nat.add_le_add_left (by rw [KK_eq]; decide) _)), (by repeat' first | exact List.Sublist.refl _ | apply List.Sublist.cons_cons | apply List.Sublist.cons)⟩, by show r.length - (j + 1) < r.length - j; omega, inferInstance⟩
        ·
          refine J.exit ?_
          obtain rfl : j = r.length := by omega
          rw [List.take_length] at hol2 hcs2 hbn2
          exact ⟨cs, rfl, ⟨rfl, rfl, rfl, rfl, rfl, trivial⟩, trivial, ⟨hol2, hcs2, fun z hz => Nat.le_trans (hbn2 z hz) (Nat.mul_le_mul_right KK (by omega)), List.Sublist.refl _⟩, inferInstance⟩
      ·
        rintro cs σ8 h8 L8 s8 ⟨hol8, hcs8, hbn8, hsub8⟩
        refine J.sub hsub8 ?_
        refine J.region ?_
        refine o_q (q_add (c := ((i + 1 : Nat) : Int)) rfl rfl (by rw [wi64 (by omega)]; omega)) ?_
        first | refine o_q (q_mvv (v := .int _ _) rfl) ?_ | refine o_q (q_mv) ?_
        refine JL.nil ?_
        exact ⟨(i + 1, cs), rfl, ⟨rfl, rfl, rfl, rfl, trivial⟩, ⟨rfl, trivial⟩, ⟨by omega, (by rw [timesL_succ hx hr]; exact hol8), (by rw [timesL_succ hx hr]; exact hcs8.mono), (by rw [timesL_succ hx hr, kk2]; exact hbn8), List.Sublist.refl _⟩, by show M.length - (i + 1) < M.length - i; omega, inferInstance⟩
    ·
      refine J.exit ?_
      obtain rfl : i = M.length := by omega
      rw [List.take_length, hM, List.take_length] at hcs hol
      exact ⟨cs, rfl, ⟨rfl, trivial⟩, trivial, ⟨hol, hcs, by repeat' first | exact List.Sublist.refl _ | apply List.Sublist.cons_cons | exact List.nil_sublist _⟩, inferInstance⟩
  ·
    rintro cs σ9 h9 L9 s9 ⟨hol, hcs, hsub⟩
    refine J.sub hsub ?_
    refine J.seq ?_
    refine J.fz b18 (fun h11 s11 hb11 => ?_)
    refine J.region ?_
    first | refine o_q (q_mvv (v := .slice _ _ _) rfl) ?_ | refine o_q (q_mv) ?_
    first | refine o_q (q_asv (v := .slice _ _ _) rfl) ?_ | refine o_q (q_as) ?_
    refine o_q (q_as) ?_
    refine JL.nil ?_
    refine J.ret ?_
    refine ret_ok (fn := Try.f31) rfl (.tmp rfl (.tmp rfl .nil)) ?_
    refine ⟨_, _, _, rfl, Sls.of (n := cols.toNat) ⟨_, _, rfl, Nat.le_refl _, by rw [hcs.1, hol], .inr ⟨b18, 0, rfl, _, _, _, hb11, LookN.all _⟩⟩ hcs.mono hol.symm⟩
end Go.Z
end
section
set_option linter.unusedSimpArgs false
set_option linter.unusedVariables false
/- Rows, vectors and matrices that are written out; validity of canonical ones. -/
set_option linter.unusedSimpArgs false
set_option linter.unusedVariables false
namespace Go.Z
open Go
theorem TermAt.out {h : Heap} {v : Value} {t : Int × Int} (a : TermAt h v t) : ∃ p n c, v = .agg ⟨[.int .i64 t.1, .bool (decide (t.2 < 0)), .slice p n c]⟩ ∧ TermR h [.int .i64 t.1, .bool (decide (t.2 < 0)), .slice p n c] (tm t) := by
  obtain ⟨p, c, rfl, hm⟩ := a
  obtain ⟨p', c', e, hc⟩ := hm.out
  cases e
  exact ⟨p, _, c, rfl, p, c, rfl, hc, hm⟩
theorem IntAt.outR {h : Heap} {v : Value} {z : Int} (a : IntAt h v z) : ∃ p n c, v = .agg ⟨[.bool (decide (z < 0)), .slice p n c]⟩ ∧ IntR h [.bool (decide (z < 0)), .slice p n c] z := by
  obtain ⟨p, c, rfl, hc, hm⟩ := a.out
  exact ⟨p, _, c, rfl, p, c, rfl, hc, hm⟩
theorem Mo.mono' {α : Type} {R : Heap → List Value → α → Prop} [mo : Mo R] {h h' : Heap} {cs : List Value} {a : α} (r : R h cs a) [e : Ext h h'] : R h' cs a := mo.m e r
section
variable {α : Type} {R : Heap → List Value → α → Prop} {sz : Nat} {h : Heap} {b : Nat} {T : TypeId}
theorem Sls.lit {l : List α} {cs : List Value} (n : Nat) (hb : h b = some (Go.Z.row T cs)) (c : Cells R sz h cs l) (hn : l.length = n) : Sls R sz h (.slice (some ⟨b, 0, none⟩) n n) l :=
  Sls.of ⟨_, n, rfl, Nat.le_refl _, by rw [c.1, hn], .inr ⟨b, 0, rfl, _, T, _, hb, LookN.all _⟩⟩ c hn.symm
theorem Cells.one {u : List Value} {a : α} (ha : R h u a) (hu : u.length = sz) : Cells R sz h u [a] := by simpa using Cells.nil.snoc hu ha
theorem Cells.two {u w cs : List Value} {a c : α} (ha : R h u a) (hc : R h w c) (e : u ++ w = cs) (hu : u.length = sz) (hw : w.length = sz) : Cells R sz h cs [a, c] := by
  subst e; exact (Cells.one ha hu).snoc hw hc
end
theorem fits {l : List (Int × Int)} (h : ∀ t ∈ l, t.2.natAbs < 18446744073709551616) : ∀ t ∈ l, Fit t.2 := fun t ht => fit64 (h t ht)
theorem fitsv {l : List Int} (h : ∀ t ∈ l, t.natAbs < 18446744073709551616) : ∀ t ∈ l, Fit t := fun t ht => fit64 (h t ht)
theorem fitss {L : List (List (Int × Int))} (h : ∀ r ∈ L, ∀ t ∈ r, t.2.natAbs < 18446744073709551616) : ∀ r ∈ L, ∀ t ∈ r, Fit t.2 := fun r hr t ht => fit64 (h r hr t ht)
theorem lensT {L : List (List (Int × Int))} (h : ∀ r ∈ L, ∀ t ∈ r, Fit t.2) : ∀ r ∈ crs L, ∀ t ∈ r, t.2.2.length ≤ 9223372036854775807 := fun r hr t ht => by
  obtain ⟨r', hr', rfl⟩ := List.mem_map.1 hr
  obtain ⟨t', ht', rfl⟩ := List.mem_map.1 ht
  exact Nat.le_trans (h r' hr' t' ht') (by decide)
theorem lensR {L : List (List (Int × Int))} (h : ∀ r ∈ L, r.length ≤ 1000000) : ∀ r ∈ crs L, r.length ≤ 1000000 := fun r hr => by
  obtain ⟨r', hr', rfl⟩ := List.mem_map.1 hr
  simpa using h r' hr'
theorem limbs_last {n : Nat} (h : n ≠ 0) : (limbs n).getD ((limbs n).length - 1) 0 ≠ 0 := by
  induction n using Nat.strongRecOn with
  | _ n ih =>
    rw [limbs_pos h]
    by_cases h2 : n / Bs = 0
    · rw [h2, limbs_zero]
      have hB : Bs = 4294967296 := rfl
      simp only [List.length_cons, List.length_nil]
      show n % Bs ≠ 0
      rw [hB] at h2 ⊢; omega
    · have := ih _ (Nat.div_lt_self (Nat.pos_of_ne_zero h) (by decide)) h2
      have hl := limbs_len_pos h2
      simp only [List.length_cons]
      obtain ⟨k, hk⟩ : ∃ k, (limbs (n / Bs)).length = k + 1 := ⟨(limbs (n / Bs)).length - 1, by omega⟩
      rw [hk] at this ⊢
      simpa using this
theorem canon_int (z : Int) : canon (decide (z < 0)) (limbs z.natAbs) = true := by
  unfold canon
  by_cases h : z = 0
  · subst h; rw [show limbs (0 : Int).natAbs = [] from limbs_zero]; rfl
  · have h1 : z.natAbs ≠ 0 := by omega
    have := limbs_len_pos h1
    rw [if_neg (by omega)]
    exact decide_eq_true (limbs_last h1)
def okT (last cols : Int) (t : Int × Int) : Bool := decide (last < t.1) && decide (t.1 < cols) && decide (t.2 ≠ 0)
def okR (last cols : Int) : List (Int × Int) → Bool
  | [] => true
  | t :: r => okT last cols t && okR t.1 cols r
def validC (rows cols : Int) (L : List (List (Int × Int))) : Bool := decide (rows = L.length) && decide (0 ≤ cols) && L.all (okR (-1) cols)
theorem okTerm_tm (last cols : Int) (t : Int × Int) : okTerm last cols (tm t) = okT last cols t := by
  unfold okTerm okT tm
  simp only [canon_int, sgn_int]
  have : decide (t.2.sign ≠ 0) = decide (t.2 ≠ 0) := decide_eq_decide.2 (by rw [ne_eq, Int.sign_eq_zero_iff_zero])
  rw [this]; simp
theorem okRow_cr (cols : Int) (r : List (Int × Int)) : ∀ last, okRow last cols (cr r) = okR last cols r := by
  induction r with
  | nil => intro last; rfl
  | cons t r ih => intro last; show (okTerm last cols (tm t) && okRow t.1 cols (cr r)) = _; rw [okTerm_tm, ih]; rfl
theorem validS_crs (rows cols : Int) (L : List (List (Int × Int))) : validS rows cols (crs L) = validC rows cols L := by
  unfold validS validC okAll
  rw [List.length_map, List.all_map]
  congr 1
  congr 1
  funext r
  exact okRow_cr cols r (-1)
end Go.Z
end
section
set_option linter.unusedSimpArgs false
set_option linter.unusedVariables false
/- The contracts of the integers' functions, in the words of their models. -/
set_option linter.unusedVariables false
namespace Go.Z
open Go Go.RowKit Go.Proofs
variable {h : Heap} {v1 v2 : Value} {x y : Int}
theorem of_if {α : Type} {p : Prop} [Decidable p] {a : α} {r : α} (h : (if p then some a else none) = some r) : p ∧ a = r := by
  split at h
  · exact ⟨‹_›, Option.some.inj h⟩
  · cases h
theorem of_if2 {α : Type} {p : Prop} [Decidable p] {a : α} {r : α} (h : (if p then some a else none) = some r) : p ∧ r = a := ⟨(of_if h).1, (of_if h).2.symm⟩
theorem raw_len (z : Int) (h : Ft z) : (limbs z.natAbs).length ≤ 9223372036854775807 := Nat.le_trans (ft_fit h) (by decide)
theorem rof_fn {r : Int} (hm : M.iof x = some r) : Fn Try.prog 14 #[.int .i64 x] h fun v h' => IntAt h' v r := by
  obtain ⟨h1, rfl⟩ := of_if2 hm; exact of_fn h1
theorem rsign_fn (r1 : IntAt h v1 x) {r : Int} (hm : M.isign x = some r) : Fn Try.prog 46 #[v1] h fun v h' => v = .int .i64 r := by
  obtain ⟨h1, rfl⟩ := of_if2 hm; have := signr_fn (r1.raw) (raw_len x h1); rw [sgn_int] at this; exact this
theorem sign_fn' (r1 : IntAt h v1 x) {r : Int} (hm : M.isign x = some r) : Fn Try.prog 45 #[v1] h fun v h' => v = .int .i64 r := by
  obtain ⟨h1, rfl⟩ := of_if2 hm; have := sign_fn (r1.raw) (raw_len x h1); rw [sgn_int] at this; exact this
theorem radd_fn (r1 : IntAt h v1 x) (r2 : IntAt h v2 y) {r : Int} (hm : M.iadd x y = some r) : Fn Try.prog 20 #[v1, v2] h fun v h' => IntAt h' v r := by
  obtain ⟨⟨h1, h2⟩, rfl⟩ := of_if2 hm; exact addr_fn r1 r2 (ft_fit h1) (ft_fit h2)
theorem add_fn' (r1 : IntAt h v1 x) (r2 : IntAt h v2 y) {r : Int} (hm : M.iadd x y = some r) : Fn Try.prog 50 #[v1, v2] h fun v h' => IntAt h' v r := by
  obtain ⟨⟨h1, h2⟩, rfl⟩ := of_if2 hm; exact add_fn r1 r2 (ft_fit h1) (ft_fit h2)
theorem rmul_fn (r1 : IntAt h v1 x) (r2 : IntAt h v2 y) {r : Int} (hm : M.imul x y = some r) : Fn Try.prog 54 #[v1, v2] h fun v h' => IntAt h' v r := by
  obtain ⟨⟨h1, h2⟩, rfl⟩ := of_if2 hm; exact mulr_fn r1 r2 (ft_fit h1) (ft_fit h2)
theorem mul_fn' (r1 : IntAt h v1 x) (r2 : IntAt h v2 y) {r : Int} (hm : M.imul x y = some r) : Fn Try.prog 51 #[v1, v2] h fun v h' => IntAt h' v r := by
  obtain ⟨⟨h1, h2⟩, rfl⟩ := of_if2 hm; exact mul_fn r1 r2 (ft_fit h1) (ft_fit h2)
theorem rneg_fn (r1 : IntAt h v1 x) {r : Int} (hm : M.ineg x = some r) : Fn Try.prog 19 #[v1] h fun v h' => IntAt h' v r := by
  obtain ⟨h1, rfl⟩ := of_if2 hm; exact neg_fn r1 (ft_fit h1)
theorem rsame_fn (r1 : IntAt h v1 x) (r2 : IntAt h v2 y) {r : Bool} (hm : M.isame x y = some r) : Fn Try.prog 53 #[v1, v2] h fun v h' => v = .bool r := by
  obtain ⟨⟨h1, h2⟩, rfl⟩ := of_if2 hm; exact same_fn r1 r2 (ft_fit h1) (ft_fit h2)
theorem cmp_fn' (r1 : IntAt h v1 x) (r2 : IntAt h v2 y) {r : Int} (hm : M.icmp x y = some r) : Fn Try.prog 76 #[v1, v2] h fun v h' => v = .int .i64 r := by
  obtain ⟨⟨h1, h2⟩, rfl⟩ := of_if2 hm; exact cmp_fn r1 r2 (ft_fit h1) (ft_fit h2)
theorem cmpi_fn' {r : Int} (hm : M.cmpi x y = some r) : Fn Try.prog 73 #[.int .i64 x, .int .i64 y] h fun v h' => v = .int .i64 r := by
  obtain rfl := Option.some.inj hm; exact cmpi_fn
theorem rvalid_fn (r1 : IntAt h v1 x) {r : Bool} (hm : M.ivalid x = some r) : Fn Try.prog 52 #[v1] h fun v h' => v = .bool r := by
  obtain ⟨h1, rfl⟩ := of_if2 hm; have := validr_fn (r1.raw) (raw_len x h1); rw [canon_int] at this; exact this
theorem valid_fn' (r1 : IntAt h v1 x) {r : Bool} (hm : M.ivalid x = some r) : Fn Try.prog 44 #[v1] h fun v h' => v = .bool r := by
  obtain ⟨h1, rfl⟩ := of_if2 hm; have := valid_fn (r1.raw) (raw_len x h1); rw [canon_int] at this; exact this
end Go.Z
end
section
set_option linter.unusedSimpArgs false
set_option linter.unusedVariables false
/- The calculus beneath the proofs: maps whose keys are whole numbers. No program is named here. -/
set_option linter.unusedSimpArgs false
set_option linter.unusedVariables false
namespace Go.Z
open Go Go.RowKit
variable {C : Cfg} {Q Q' : Post} {ds : List Deferred} {ρ : Env} {h h1 h2 : Heap} {L L' Ls Lb : Own} {ops : Array Oper} {rest : List Oper}
variable {d : Nat} {ty : TypeId} {pos : String} {after : Array Edge} {S : World → Prop}

class Mp (P : Program) (T : TypeId) (K E : outParam TypeId) : Prop where
  u : P.underlying T = some (.map K E)
  k : P.underlying K = some (.int .i64)

variable {α : Type} {VR : Heap → Value → α → Prop} {m : List (Int × α)} {a z0 : α} {k : Int}
def EntsR (VR : Heap → Value → α → Prop) (h : Heap) : List MapEntry → List (Int × α) → Prop
  | [], [] => True
  | e :: es, (k, a) :: m => e.key = .int .i64 k ∧ VR h e.val a ∧ EntsR VR h es m
  | _, _ => False
/-- Each entry has a number of its own, less than the clock. -/
def Born (es : List MapEntry) (clk : Nat) : Prop := (es.map (·.born)).Nodup ∧ ∀ e ∈ es, e.born < clk
def MapR (VR : Heap → Value → α → Prop) (h : Heap) (o : Obj) (m : List (Int × α)) : Prop := ∃ es clk, o = .map ⟨es⟩ clk ∧ EntsR VR h es m ∧ Born es clk
class MoV (VR : Heap → Value → α → Prop) : Prop where m : ∀ {h h' : Heap} {v : Value} {a : α}, Ext h h' → VR h v a → VR h' v a
theorem EntsR.mono [mo : MoV VR] (e : Ext h1 h) : ∀ {es : List MapEntry} {m : List (Int × α)}, EntsR VR h1 es m → EntsR VR h es m
  | [], [], _ => trivial
  | _ :: _, (_, _) :: _, ⟨h1, h2, h3⟩ => ⟨h1, mo.m e h2, EntsR.mono e h3⟩
  | [], _ :: _, w => w.elim
  | _ :: _, [], w => w.elim
theorem MapR.mono [mo : MoV VR] {o : Obj} (w : MapR VR h1 o m) [e : Ext h1 h] : MapR VR h o m := let ⟨es, c, a, b, d⟩ := w; ⟨es, c, a, b.mono e, d⟩
theorem findNow_ents (x : Int) : ∀ {es : List MapEntry} {m : List (Int × α)} (i : Nat), EntsR VR h es m →
    (mfind m x = none ∧ Instr.findNow (.int .i64) (.int .i64 x) es i = some none) ∨ ∃ j v a, mfind m x = some a ∧ Instr.findNow (.int .i64) (.int .i64 x) es i = some (some (i + j, v)) ∧ VR h v a ∧ es[j]?.map (·.val) = some v
  | [], [], i, _ => .inl ⟨rfl, rfl⟩
  | e :: es, (k, a) :: m, i, ⟨h1, h2, h3⟩ => by
    simp only [Instr.findNow, mfind, h1, Instr.sameNow, if_true]
    by_cases hk : x = k
    · subst hk
      exact .inr ⟨0, e.val, a, by simp, by simp, h2, by simp⟩
    · have hb : (x == k) = false := by simpa using hk
      rcases findNow_ents x (i + 1) h3 with ⟨g1, g2⟩ | ⟨j, v, a', g1, g2, g3, g4⟩
      · exact .inl ⟨by simp [hk, g1], by simp [hb, g2]⟩
      · exact .inr ⟨j + 1, v, a', by simp [hk, g1], by simp [hb, g2]; omega, g3, by simpa using g4⟩
  | [], _ :: _, _, w => w.elim
  | _ :: _, [], _, w => w.elim
/-- What a look at the map gives. -/
def LookM (o : Obj) (x : Int) (z v : Value) (ok : Bool) : Prop := ∃ es clk, o = .map ⟨es⟩ clk ∧ ((Instr.findNow (.int .i64) (.int .i64 x) es 0 = some none ∧ v = z ∧ ok = false) ∨ ∃ i, Instr.findNow (.int .i64) (.int .i64 x) es 0 = some (some (i, v)) ∧ ok = true)
theorem MapR.look {o : Obj} {z : Value} (w : MapR VR h o m) (x : Int) (hz : VR h z z0) : ∃ v, VR h v (mget m x z0) ∧ LookM o x z v (mhas m x) := by
  obtain ⟨es, clk, rfl, he, _⟩ := w
  rcases findNow_ents x 0 he with ⟨g1, g2⟩ | ⟨j, v, a, g1, g2, g3, _⟩
  · exact ⟨z, by simpa [mget, g1] using hz, es, clk, rfl, .inl ⟨g2, rfl, by simp [mhas, g1]⟩⟩
  · exact ⟨v, by simpa [mget, g1] using g3, es, clk, rfl, .inr ⟨_, g2, by simp [mhas, g1]⟩⟩
theorem run_checkKey {P : Program} {K : TypeId} {w : World} {b : Bool} {x : Int} {n : Nat} (hk : P.underlying K = some (.int .i64)) : (Instr.checkKey b (n + 1) K (.int .i64 x)).run P w = .ok () w := by
  simp only [Instr.checkKey, bind]
  rw [Sem.run_bind', und_run hk]
  rfl
theorem run_findKey {P : Program} {K : TypeId} {w : World} {x : Int} {es : List MapEntry} {r : Option (Nat × Value)} (hk : P.underlying K = some (.int .i64)) (hf : Instr.findNow (.int .i64) (.int .i64 x) es 0 = some r) : (Instr.findKey K (.int .i64 x) es).run P w = .ok r w := by
  simp only [Instr.findKey, bind]
  rw [Sem.run_bind', und_run hk]
  simp only [Result.andThen, hf]
  rfl
theorem run_getObj {P : Program} {w : World} {b : Nat} {es : Array MapEntry} {clk : Nat} (hb : w.heap[b]? = some (.map es clk)) : (getObj b).run P w = .ok (.map es clk) w := by
  simp [getObj, Sem.run, hb]
theorem run_setObj {P : Program} {w : World} {b : Nat} {o : Obj} {es : Array MapEntry} {clk : Nat} (hb : w.heap[b]? = some (.map es clk)) : (setObj b o).run P w = .ok () (w.putObj b o) := by
  simp [setObj, Sem.run, hb, World.putObj]
theorem run_lookup {P : Program} {T K E : TypeId} [mp : Mp P T K E] {w : World} {b : Nat} {o : Obj} {x : Int} {z v : Value} {ok cok : Bool} (hb : w.heap[b]? = some o) (hz : (zeroValue E).run P w = .ok z w) (hl : LookM o x z v ok) :
    (Instr.lookup T (.map (some b)) (.int .i64 x) cok).run P w = .ok (if cok then .tuple ⟨[v, .bool ok]⟩ else v) w := by
  obtain ⟨es, clk, rfl, hf⟩ := hl
  simp only [Instr.lookup, bind]
  rw [Sem.run_bind', und_run mp.u]
  simp only [Result.andThen]
  rw [Sem.run_bind', run_getObj hb]
  simp only [Result.andThen]
  rw [Sem.run_bind', show (Pure.pure (⟨es⟩ : Array MapEntry) : Sem (Array MapEntry)).run P w = .ok ⟨es⟩ w from rfl]
  simp only [Result.andThen]
  rw [Sem.run_bind', run_checkKey (n := 9999) mp.k]
  simp only [Result.andThen]
  rw [Sem.run_bind']
  rcases hf with ⟨g, rfl, rfl⟩ | ⟨i, g, rfl⟩
  · rw [run_findKey mp.k g]
    simp only [Result.andThen]
    rw [Sem.run_bind', hz]
    cases cok <;> rfl
  · rw [run_findKey mp.k g]
    cases cok <;> rfl

theorem ents_snoc {e : MapEntry} {v : Value} : ∀ {es : List MapEntry} {m : List (Int × α)}, EntsR VR h es m → e.key = .int .i64 k → VR h e.val a → EntsR VR h (es ++ [e]) (m ++ [(k, a)])
  | [], [], _, h1, h2 => ⟨h1, h2, trivial⟩
  | _ :: _, (_, _) :: _, ⟨g1, g2, g3⟩, h1, h2 => ⟨g1, g2, ents_snoc (v := v) g3 h1 h2⟩
  | [], _ :: _, w, _, _ => w.elim
  | _ :: _, [], w, _, _ => w.elim
theorem ents_put (x : Int) {v' : Value} (hv : VR h v' a) : ∀ {es : List MapEntry} {m : List (Int × α)} (i : Nat), EntsR VR h es m →
    (Instr.findNow (.int .i64) (.int .i64 x) es i = some none ∧ mput m x a = m ++ [(x, a)]) ∨
    ∃ j v, Instr.findNow (.int .i64) (.int .i64 x) es i = some (some (i + j, v)) ∧ es[j]?.map (·.key) = some (.int .i64 x) ∧ EntsR VR h (es.modify j fun e => { e with key := .int .i64 x, val := v' }) (mput m x a)
  | [], [], i, _ => .inl ⟨rfl, rfl⟩
  | e :: es, (k, b) :: m, i, ⟨h1, h2, h3⟩ => by
    simp only [Instr.findNow, mput, h1, Instr.sameNow, if_true]
    by_cases hk : x = k
    · subst hk
      exact .inr ⟨0, e.val, by simp, by simp [h1], by simp [EntsR, hv, h3]⟩
    · have hb : (x == k) = false := by simpa using hk
      rcases ents_put x hv (i + 1) h3 with ⟨g1, g2⟩ | ⟨j, v, g1, g2, g3⟩
      · exact .inl ⟨by simp [hb, g1], by simp [hk, g2]⟩
      · exact .inr ⟨j + 1, v, by simp [hb, g1]; omega, by simpa using g2, by simp only [hk, if_false, List.modify_succ_cons]; exact ⟨h1, h2, g3⟩⟩
  | [], _ :: _, _, w => w.elim
  | _ :: _, [], _, w => w.elim
theorem ents_del (x : Int) : ∀ {es : List MapEntry} {m : List (Int × α)} (i : Nat), EntsR VR h es m →
    (Instr.findNow (.int .i64) (.int .i64 x) es i = some none ∧ mdel m x = m) ∨
    ∃ j v, Instr.findNow (.int .i64) (.int .i64 x) es i = some (some (i + j, v)) ∧ j < es.length ∧ EntsR VR h (es.eraseIdx j) (mdel m x)
  | [], [], i, _ => .inl ⟨rfl, rfl⟩
  | e :: es, (k, b) :: m, i, ⟨h1, h2, h3⟩ => by
    simp only [Instr.findNow, mdel, h1, Instr.sameNow, if_true]
    by_cases hk : x = k
    · subst hk
      exact .inr ⟨0, e.val, by simp, by simp, by simp [h3]⟩
    · have hb : (x == k) = false := by simpa using hk
      rcases ents_del x (i + 1) h3 with ⟨g1, g2⟩ | ⟨j, v, g1, g2, g3⟩
      · exact .inl ⟨by simp [hb, g1], by simp [hk, g2]⟩
      · exact .inr ⟨j + 1, v, by simp [hb, g1]; omega, by simpa using g2, by simp only [hk, if_false, List.eraseIdx_cons_succ]; exact ⟨h1, h2, g3⟩⟩
  | [], _ :: _, _, w => w.elim
  | _ :: _, [], _, w => w.elim
theorem ents_len : ∀ {es : List MapEntry} {m : List (Int × α)}, EntsR VR h es m → es.length = m.length
  | [], [], _ => rfl
  | _ :: _, (_, _) :: _, ⟨_, _, h3⟩ => by simp [ents_len h3]
  | [], _ :: _, w => w.elim
  | _ :: _, [], w => w.elim
theorem Born.snoc {es : List MapEntry} {clk : Nat} {e : MapEntry} (w : Born es clk) (he : e.born = clk) : Born (es ++ [e]) (clk + 1) := by
  refine ⟨?_, fun x hx => ?_⟩
  · rw [List.map_append, List.nodup_append]
    refine ⟨w.1, by simp, fun a ha b hb => ?_⟩
    obtain ⟨x, hx, rfl⟩ := List.mem_map.1 ha
    simp at hb
    have := w.2 x hx
    omega
  · rcases List.mem_append.1 hx with h | h
    · have := w.2 x h; omega
    · simp at h; subst h; omega
theorem born_modify {f : MapEntry → MapEntry} (hf : ∀ e, (f e).born = e.born) : ∀ (es : List MapEntry) (j : Nat), (es.modify j f).map (·.born) = es.map (·.born)
  | [], j => by simp
  | e :: es, 0 => by simp [hf]
  | e :: es, j + 1 => by simp [born_modify hf es j]
theorem Born.modify {es : List MapEntry} {clk j : Nat} {f : MapEntry → MapEntry} (w : Born es clk) (hf : ∀ e, (f e).born = e.born) : Born (es.modify j f) clk := by
  have e := born_modify hf es j
  refine ⟨by rw [e]; exact w.1, fun x hx => ?_⟩
  have : x.born ∈ (es.modify j f).map (·.born) := List.mem_map_of_mem hx
  rw [e] at this
  obtain ⟨y, hy, hyx⟩ := List.mem_map.1 this
  rw [← hyx]; exact w.2 y hy
theorem Born.erase {es : List MapEntry} {clk j : Nat} (w : Born es clk) : Born (es.eraseIdx j) clk :=
  ⟨List.Sublist.nodup ((List.eraseIdx_sublist es j).map _) w.1, fun x hx => w.2 x ((List.eraseIdx_sublist es j).subset hx)⟩
theorem run_update {P : Program} {T K E : TypeId} [mp : Mp P T K E] {w : World} {b : Nat} {o : Obj} {x : Int} {v : Value} (hb : w.heap[b]? = some o) (hm : MapR VR h o m) (hv : VR h v a) :
    ∃ o', (Instr.mapUpdate T (.map (some b)) (.int .i64 x) v).run P w = .ok () (w.putObj b o') ∧ MapR VR h o' (mput m x a) := by
  obtain ⟨es, clk, rfl, he, hbn⟩ := hm
  simp only [Instr.mapUpdate, bind]
  rw [Sem.run_bind', und_run mp.u]
  simp only [Result.andThen]
  rw [Sem.run_bind', run_getObj hb]
  simp only [Result.andThen]
  rw [Sem.run_bind', run_checkKey (n := 9999) mp.k]
  simp only [Result.andThen]
  rw [Sem.run_bind']
  rcases ents_put x hv 0 he with ⟨g1, g2⟩ | ⟨j, v0, g1, g2, g3⟩
  · rw [run_findKey mp.k g1]
    simp only [Result.andThen]
    rw [run_setObj hb]
    refine ⟨_, rfl, es ++ [{ key := .int .i64 x, val := v, born := clk }], clk + 1, by simp, ?_, ?_⟩
    · rw [g2]
      exact ents_snoc (v := v) he rfl hv
    · exact hbn.snoc rfl
  · rw [run_findKey mp.k g1]
    simp only [Result.andThen]
    have hk : (((⟨es⟩ : Array MapEntry)[0 + j]?).map (·.key)).getD (.int .i64 x) = .int .i64 x := by
      simp [g2]
    rw [hk]
    rw [show (Instr.keyThatStays (.int .i64 x) (.int .i64 x)) = Pure.pure (.int .i64 x) by simp [Instr.keyThatStays, Instr.sameBits]]
    rw [Sem.run_bind', show (Pure.pure (Value.int .i64 x) : Sem Value).run P w = .ok (.int .i64 x) w from rfl]
    simp only [Result.andThen]
    rw [run_setObj hb]
    refine ⟨_, rfl, es.modify j fun e => { e with key := .int .i64 x, val := v }, clk, by simp, g3, hbn.modify fun _ => rfl⟩
theorem run_delete {P : Program} {T K E K' : TypeId} [mp : Mp P T K E] {w : World} {b : Nat} {o : Obj} {x : Int} (hb : w.heap[b]? = some o) (hm : MapR VR h o m) :
    ∃ o', (Builtin.delete_ #[T, K'] ty #[.map (some b), .int .i64 x]).run P w = .ok (.tuple #[]) (w.putObj b o') ∧ MapR VR h o' (mdel m x) := by
  obtain ⟨es, clk, rfl, he, hbn⟩ := hm
  simp only [Builtin.delete_, bind]
  simp only [List.getElem?_toArray, List.getElem?_cons_zero, List.getElem?_cons_succ]
  rw [Sem.run_bind', und_run mp.u]
  simp only [Result.andThen]
  rw [Sem.run_bind', run_getObj hb]
  simp only [Result.andThen]
  rw [Sem.run_bind', run_checkKey (n := 9999) mp.k]
  simp only [Result.andThen]
  rw [Sem.run_bind']
  rcases ents_del x 0 he with ⟨g1, g2⟩ | ⟨j, v0, g1, g2, g3⟩
  · rw [run_findKey mp.k g1]
    simp only [Result.andThen]
    rw [Sem.run_bind', run_setObj hb]
    exact ⟨_, rfl, es, clk, rfl, by rw [g2]; exact he, hbn⟩
  · rw [run_findKey mp.k g1]
    simp only [Result.andThen]
    rw [Sem.run_bind', run_setObj hb]
    exact ⟨_, rfl, es.eraseIdx j, clk, by simp [Array.eraseIdxIfInBounds, g2], g3, hbn.erase⟩
end Go.Z
end
section
set_option linter.unusedSimpArgs false
set_option linter.unusedVariables false
/- The calculus beneath the proofs: the rules for maps; a few more rules. No program is named here. -/
set_option linter.unusedSimpArgs false
set_option linter.unusedVariables false
namespace Go.Z
open Go Go.RowKit
variable {C : Cfg} {Q Q' : Post} {ds : List Deferred} {ρ : Env} {h h1 h2 : Heap} {L L' Ls Lb : Own} {ops : Array Oper} {rest : List Oper}
variable {d : Nat} {ty : TypeId} {pos : String} {after : Array Edge} {S : World → Prop}
variable {α : Type} {VR : Heap → Value → α → Prop} {m : List (Int × α)} {a z0 : α} {k : Int}
/-- A type of arrays. -/
class Ar (P : Program) (T : TypeId) (n e : outParam Nat) : Prop where u : P.underlying T = some (.array n e)
theorem q_jan {x y : Operand} {T e sz n b o i : Nat} {q : IntKind} {j : Int} [ha : Ar C.P T n e] [hs : Sz C.P e sz] (hx : ρ.ev x = .pointer (some ⟨b, o, none⟩)) (hy : ρ.ev y = .int q j) (hj : j = (i : Int)) (hi : i < n) : Qr C ρ S (.indexAddr T x y) ty (.pointer (some ⟨b, o + i * sz, none⟩)) := by
  subst hj
  have := q_ja (S := S) (ty := ty) (C := C) (T := T) (e := e) (sz := sz) ha.u hx hy (by omega)
  rwa [Int.toNat_natCast] at this
theorem arr_get {k : IntKind} {l : List Int} {n : Nat} {y : Int} (h : l[n]? = some y) : (l.map (Value.int k))[0 + n * 1]? = some (.int k y) := by
  rw [Nat.zero_add, Nat.mul_one, List.getElem?_map, h]; rfl
/-- The zero value of a type, whole. -/
class Zw (P : Program) (T : TypeId) (v : outParam Value) : Prop where i : ∃ i, P.info? T = some i ∧ i.zero = some v
theorem zw_of {P : Program} {T : Nat} {v : Value} (h : (P.info? T).bind (·.zero) = some v) : Zw P T v := ⟨by
  cases e : P.info? T with
  | none => rw [e] at h; cases h
  | some i => rw [e] at h; exact ⟨i, rfl, h⟩⟩
theorem zw_run {P : Program} {T : TypeId} {v : Value} [z : Zw P T v] (w : World) : (zeroValue T).run P w = .ok v w := by
  obtain ⟨i, h1, h2⟩ := z.i
  simp [zeroValue, typeInfo, program, h1, h2, Sem.run_bind, Result.andThen, Sem.run, Pure.pure]
/-- An operation that gives a value which nobody keeps. -/
theorem JL.valN {o : Oper} (hg : o.guard = none) (hc : calm o.op = true) (hd : o.dst = none)
    (run : ∀ w, St C.w0 C.h0 h L w → ∃ v h' L' w', (execOp ρ.ev o).run C.P w = .ok (.value v) w' ∧ St C.w0 C.h0 h' L' w' ∧ JL C ops Q rest ds ρ h' L') :
    JL C ops Q (o :: rest) ds ρ h L := JL.step hg hc fun a w ha hs => by
  obtain ⟨v, h', L', w', hr, hs', hk⟩ := run w hs
  rw [hr, Oper.uponIn_value, hd]
  exact hk _ _ (ha.putNone v) hs'
/-- A map that is written no more, or none. -/
def MapF (VR : Heap → Value → α → Prop) (h : Heap) (v : Value) (m : List (Int × α)) : Prop := (v = .map none ∧ m = []) ∨ ∃ b o, v = .map (some b) ∧ h b = some o ∧ MapR VR h o m
theorem MapF.mono [mo : MoV VR] {v : Value} (w : MapF VR h1 v m) [e : Ext h1 h] : MapF VR h v m := by
  rcases w with w | ⟨b, o, g1, g2, g3⟩
  · exact .inl w
  · exact .inr ⟨b, o, g1, e.le _ _ g2, g3.mono⟩
theorem MapF.nil : MapF VR h (.map none) [] := .inl ⟨rfl, rfl⟩
theorem MapF.op {v : Value} (w : MapF VR h v m) : ∃ q : Option Nat, v = .map q ∧ MapF VR h (.map q) m := by
  rcases w with ⟨rfl, rfl⟩ | ⟨b, o, rfl, g2, g3⟩
  · exact ⟨none, rfl, .inl ⟨rfl, rfl⟩⟩
  · exact ⟨some b, rfl, .inr ⟨b, o, rfl, g2, g3⟩⟩
/-- What a look at such a map gives. -/
def LookF (h : Heap) (q : Option Nat) (x : Int) (z v : Value) (ok : Bool) : Prop := (q = none ∧ v = z ∧ ok = false) ∨ ∃ b o, q = some b ∧ h b = some o ∧ LookM o x z v ok
theorem MapF.look {q : Option Nat} {z : Value} (w : MapF VR h (.map q) m) (x : Int) (hz : VR h z z0) : ∃ v, VR h v (mget m x z0) ∧ LookF h q x z v (mhas m x) := by
  rcases w with ⟨e, rfl⟩ | ⟨b, o, e, g2, g3⟩
  · cases e; exact ⟨z, by simpa [mget, mfind] using hz, .inl ⟨rfl, rfl, rfl⟩⟩
  · cases e
    obtain ⟨v, h1, h2⟩ := g3.look x hz
    exact ⟨v, h1, .inr ⟨b, o, rfl, g2, h2⟩⟩
section
variable {x y z : Operand} {T K E : TypeId} {b : Nat} {o : Obj} {f : Obj → Own} {v zv : Value} {ok cok : Bool}
theorem q_look [mp : Mp C.P T K E] [hz : Zw C.P E zv] (hx : ρ.ev x = .map (some b)) (hy : ρ.ev y = .int .i64 k) (A : At L b o f) (hl : LookM o k zv v ok) : Qr C ρ (SS C h L) (.lookup T x y false) ty v := ⟨rfl, fun w hs => by
  have := run_lookup (P := C.P) (T := T) (E := E) (cok := false) (A.heapS hs) (zw_run w) hl
  simp only [execOp, hx, hy]
  exact run_v this⟩
theorem q_lookOk [mp : Mp C.P T K E] [hz : Zw C.P E zv] (hx : ρ.ev x = .map (some b)) (hy : ρ.ev y = .int .i64 k) (A : At L b o f) (hl : LookM o k zv v ok) : Qr C ρ (SS C h L) (.lookup T x y true) ty (.tuple ⟨[v, .bool ok]⟩) := ⟨rfl, fun w hs => by
  have := run_lookup (P := C.P) (T := T) (E := E) (cok := true) (A.heapS hs) (zw_run w) hl
  simp only [execOp, hx, hy]
  exact run_v this⟩
theorem run_lookF {P : Program} {T K E : TypeId} [mp : Mp P T K E] {w : World} {q : Option Nat} {x : Int} {z v : Value} {ok cok : Bool} (hh : ∀ b o, h b = some o → w.heap[b]? = some o) (hz : (zeroValue E).run P w = .ok z w) (hl : LookF h q x z v ok) :
    (Instr.lookup T (.map q) (.int .i64 x) cok).run P w = .ok (if cok then .tuple ⟨[v, .bool ok]⟩ else v) w := by
  rcases hl with ⟨rfl, rfl, rfl⟩ | ⟨b, o, rfl, g2, g3⟩
  · simp only [Instr.lookup, bind]
    rw [Sem.run_bind', und_run mp.u]
    simp only [Result.andThen]
    rw [Sem.run_bind', show (Pure.pure (#[] : Array MapEntry) : Sem (Array MapEntry)).run P w = .ok #[] w from rfl]
    simp only [Result.andThen]
    rw [Sem.run_bind', run_checkKey (n := 9999) mp.k]
    simp only [Result.andThen]
    rw [Sem.run_bind']
    rw [run_findKey (r := none) mp.k rfl]
    simp only [Result.andThen]
    rw [Sem.run_bind', hz]
    cases cok <;> rfl
  · exact run_lookup (hh _ _ g2) hz g3
theorem ss_heap {h1 : Heap} [e : Ext h1 h] {w : World} (s : SS C h L w) : ∀ b o, h1 b = some o → w.heap[b]? = some o := fun b o hb => by
  obtain ⟨h', L', he, _, hs⟩ := s
  exact hs.fro _ _ (he.le _ _ (e.le _ _ hb))
theorem q_lookF [mp : Mp C.P T K E] [hz : Zw C.P E zv] [e : Ext h1 h] {q : Option Nat} (hx : ρ.ev x = .map q) (hy : ρ.ev y = .int .i64 k) (hl : LookF h1 q k zv v ok) : Qr C ρ (SS C h L) (.lookup T x y false) ty v := ⟨rfl, fun w hs => by
  have := run_lookF (E := E) (P := C.P) (T := T) (cok := false) (w := w) (ss_heap hs) (zw_run w) hl
  simp only [execOp, hx, hy]
  exact run_v this⟩
theorem q_lookFOk [mp : Mp C.P T K E] [hz : Zw C.P E zv] [e : Ext h1 h] {q : Option Nat} (hx : ρ.ev x = .map q) (hy : ρ.ev y = .int .i64 k) (hl : LookF h1 q k zv v ok) : Qr C ρ (SS C h L) (.lookup T x y true) ty (.tuple ⟨[v, .bool ok]⟩) := ⟨rfl, fun w hs => by
  have := run_lookF (E := E) (P := C.P) (T := T) (cok := true) (w := w) (ss_heap hs) (zw_run w) hl
  simp only [execOp, hx, hy]
  exact run_v this⟩
theorem MapR.nil : MapR VR h (.map #[] 0) [] := ⟨[], 0, rfl, trivial, by simp [Born]⟩
theorem o_mkMap (k : ∀ b o, MapR VR h o [] → JL C ops Q rest ds (ρ.set d (.map (some b))) h ((b, o) :: L)) (hn : Nat.blt d C.n = true := by rfl) :
    JL C ops Q (⟨some d, .makeMap T none, ty, pos, after, none⟩ :: rest) ds ρ h L :=
  JL.val rfl rfl rfl hn fun w hs => ⟨_, h, _, w.alloc (.map #[] 0), by
    simp only [execOp, Option.map_none]
    refine run_v ?_
    rfl, hs.alloc _, k _ _ MapR.nil⟩
theorem o_mapPut [mp : Mp C.P T K E] (hx : ρ.ev x = .map (some b)) (hy : ρ.ev y = .int .i64 k) (hz : ρ.ev z = v) (A : At L b o f) (hm : MapR VR h o m) (hv : VR h v a)
    (kk : ∀ o', MapR VR h o' (mput m k a) → JL C ops Q rest ds ρ h (f o')) : JL C ops Q (⟨none, .mapUpdate T x y z, ty, pos, after, none⟩ :: rest) ds ρ h L :=
  JL.unit rfl rfl rfl fun w hs => by
    obtain ⟨o', g1, g2⟩ := run_update (P := C.P) (T := T) (A.heap hs) hm hv
    refine ⟨h, _, _, ?_, A.put hs, kk o' g2⟩
    simp only [execOp, hx, hy, hz]
    exact run_u g1
theorem o_mapIns [mp : Mp C.P T K E] (hx : ρ.ev x = .map (some b)) (hy : ρ.ev y = .int .i64 k) (hz : ρ.ev z = v) (A : At L b o f) (hm : MapR VR h o m) (hv : VR h v a)
    (kk : ∀ o', MapR VR h o' (mput m k a) → JL C ops Q rest ds ρ h (f o')) : JL C ops Q (⟨none, .insert T x y z, ty, pos, after, none⟩ :: rest) ds ρ h L :=
  JL.unit rfl rfl rfl fun w hs => by
    obtain ⟨o', g1, g2⟩ := run_update (P := C.P) (T := T) (A.heap hs) hm hv
    refine ⟨h, _, _, ?_, A.put hs, kk o' g2⟩
    simp only [execOp, hx, hy, hz]
    exact run_u g1
theorem o_mapDel {K' : TypeId} [mp : Mp C.P T K E] (hx : ρ.ev x = .map (some b)) (hy : ρ.ev y = .int .i64 k) (A : At L b o f) (hm : MapR VR h o m)
    (kk : ∀ o', MapR VR h o' (mdel m k) → JL C ops Q rest ds ρ h (f o')) : JL C ops Q (⟨none, .call { callee := .builtin .delete, args := #[x, y], argTypes := #[T, K'] }, ty, pos, after, none⟩ :: rest) ds ρ h L :=
  JL.valN rfl rfl rfl fun w hs => by
    obtain ⟨o', g1, g2⟩ := run_delete (P := C.P) (T := T) (K' := K') (ty := ty) (A.heap hs) hm
    refine ⟨.tuple #[], h, _, _, ?_, A.put hs, kk o' g2⟩
    have hm2 : (#[x, y] : Array Operand).map ρ.ev = #[.map (some b), .int .i64 k] := by simp [hx, hy]
    simp only [execOp, resolve, hm2]
    exact run_v g1
theorem q_lenM [mp : Mp C.P T K E] (hx : ρ.ev x = .map (some b)) (A : At L b o f) (hm : MapR VR h1 o m) : Qr C ρ (SS C h L) (.call { callee := .builtin .len, args := #[x], argTypes := #[T] }) ty (.int .i64 (m.length : Int)) := ⟨rfl, fun w hs => by
  obtain ⟨es, clk, rfl, he, _⟩ := hm
  have hb := A.heapS hs
  have hm2 : (#[x] : Array Operand).map ρ.ev = #[.map (some b)] := by simp [hx]
  simp only [execOp, resolve, hm2]
  refine run_v ?_
  simp only [Builtin.len_, bind, List.getElem?_toArray, List.getElem?_cons_zero]
  rw [Sem.run_bind', und_run mp.u]
  simp only [Result.andThen]
  rw [Sem.run_bind', run_getObj hb]
  simp only [Result.andThen]
  simp [goInt, ents_len he, Sem.run, Pure.pure]⟩
end
/-- A map of one's own is written no more. -/
theorem JL.fzM (b : Nat) {o : Obj} (w : MapR VR h o m) [mo : MoV VR] [r : Rem L [(b, o)] L'] (k : ∀ h', Step h h' → MapF VR h' (.map (some b)) m → JL C ops Q rest ds ρ h' L') : JL C ops Q rest ds ρ h L :=
  JL.fzB b fun h' st hb => k h' st (.inr ⟨b, o, rfl, hb, w.mono⟩)
theorem J.fzM {c : Code} (b : Nat) {o : Obj} (w : MapR VR h o m) [mo : MoV VR] [r : Rem L [(b, o)] L'] (k : ∀ h', Step h h' → MapF VR h' (.map (some b)) m → J C c Q ds ρ h' L') : J C c Q ds ρ h L :=
  J.fzB b fun h' st hb => k h' st (.inr ⟨b, o, rfl, hb, w.mono⟩)
theorem CellN.row {b : Nat} {l : List Value} {T : TypeId} {fr : Nat × Nat} (hb : h b = some (.cells ⟨l⟩ T fr)) : CellN h b 0 l := ⟨l, T, fr, hb, LookN.all l⟩
/-- A variable that is written no more, and what it holds. -/
def BoxF (R : Heap → List Value → α → Prop) (h : Heap) (b : Nat) (x : α) : Prop := ∃ cs, CellN h b 0 cs ∧ R h cs x
theorem BoxF.mono {R : Heap → List Value → α → Prop} [mo : Mo R] {b : Nat} {x : α} (w : BoxF R h1 b x) [e : Ext h1 h] : BoxF R h b x := let ⟨cs, p, q⟩ := w; ⟨cs, p.mono e, mo.m e q⟩
/-- Values of one kind as relations. -/
def VI (k : IntKind) (h : Heap) (v : Value) (x : Int) : Prop := v = .int k x
def VB (h : Heap) (v : Value) (x : Bool) : Prop := v = .bool x
instance {k : IntKind} : MoV (VI k) := ⟨fun _ a => a⟩
instance : MoV VB := ⟨fun _ a => a⟩
instance : MoV IntAt := ⟨fun e a => a.mono (e := e)⟩
instance {R : Heap → List Value → α → Prop} {sz : Nat} [mo : Mo R] : MoV (Sls R sz) := ⟨fun e a => a.mono (e := e)⟩
instance {R : Heap → List Value → α → Prop} [mo : Mo R] : MoV (AggV R) := ⟨fun e a => a.mono (e := e)⟩
section
variable {x y : Operand} {q : IntKind} {a b : Int}
theorem q_max {T T' : TypeId} (hx : ρ.ev x = .int q a) (hy : ρ.ev y = .int q b) : Qr C ρ S (.call { callee := .builtin .max, args := #[x, y], argTypes := #[T, T'] }) ty (.int q (max a b)) := ⟨rfl, fun w _ => by
  have hm2 : (#[x, y] : Array Operand).map ρ.ev = #[.int q a, .int q b] := by simp [hx, hy]
  simp only [execOp, resolve, hm2]
  refine run_v ?_
  have e : (if b > a then b else a) = max a b := by split <;> omega
  rw [← e]
  rfl⟩
theorem q_min {T T' : TypeId} (hx : ρ.ev x = .int q a) (hy : ρ.ev y = .int q b) : Qr C ρ S (.call { callee := .builtin .min, args := #[x, y], argTypes := #[T, T'] }) ty (.int q (min a b)) := ⟨rfl, fun w _ => by
  have hm2 : (#[x, y] : Array Operand).map ρ.ev = #[.int q a, .int q b] := by simp [hx, hy]
  simp only [execOp, resolve, hm2]
  refine run_v ?_
  have e : (if b < a then b else a) = min a b := by split <;> omega
  rw [← e]
  rfl⟩
end
end Go.Z
end
section
set_option linter.unusedSimpArgs false
set_option linter.unusedVariables false
/- The calculus beneath the proofs: lists of lists that a function builds and changes. No program is named here. -/
set_option linter.unusedSimpArgs false
set_option linter.unusedVariables false
namespace Go.Z
open Go Go.RowKit
variable {C : Cfg} {Q Q' : Post} {ds : List Deferred} {ρ : Env} {h h1 h2 : Heap} {L L' Ls Lb M : Own} {ops : Array Oper} {rest : List Oper}
variable {d : Nat} {ty : TypeId} {pos : String} {after : Array Edge} {S : World → Prop}

/-- A row: the slice in the outer list, and its block. -/
structure RowD where
  p : Option Addr
  n : Nat
  c : Nat
  Lb : Own
def RowD.v (d : RowD) : Value := .slice d.p d.n d.c
section
variable {α : Type} {R : Heap → List Value → α → Prop} {T : TypeId} {sz i k c n : Nat} {hs : List Value} {rows : List (List α)} {r : List α} {a : α} {pr : Option Addr} {nr cr : Nat}
def OwnLL (R : Heap → List Value → α → Prop) (T : TypeId) (sz : Nat) (h : Heap) (hs : List Value) (c : Nat) (rows : List (List α)) (M : Own) : Prop :=
  ∃ D : List RowD, rows.length ≤ c ∧ hs.length = c ∧ D.length = rows.length ∧ M.Perm (D.flatMap (·.Lb)) ∧ (∀ (i : Nat) (d : RowD), D[i]? = some d → hs[i]? = some d.v) ∧ ∀ (i : Nat) (d : RowD) (r : List α), D[i]? = some d → rows[i]? = some r → OwnL R T sz h d.v r d.Lb
theorem OwnLL.mono [Mo R] (w : OwnLL R T sz h1 hs c rows M) [e : Ext h1 h] : OwnLL R T sz h hs c rows M :=
  let ⟨D, a1, a2, a3, a4, a5, a6⟩ := w; ⟨D, a1, a2, a3, a4, a5, fun i d r h1 h2 => (a6 i d r h1 h2).mono⟩
/-- The slice of a row. -/
theorem OwnLL.hdr (w : OwnLL R T sz h hs c rows M) (hr : rows[i]? = some r) : ∃ pr nr cr, hs[i]? = some (.slice pr nr cr) ∧ nr = r.length := by
  obtain ⟨D, a1, a2, a3, a4, a5, a6⟩ := w
  have hi : i < D.length := by rw [a3]; exact (List.getElem?_eq_some_iff.1 hr).1
  obtain ⟨d, hd⟩ := lt_get hi
  exact ⟨_, _, _, a5 i d hd, (a6 i d r hd hr).len⟩
theorem flatMap_split {D : List RowD} {d : RowD} (hd : D[i]? = some d) (d' : RowD) : D.flatMap (·.Lb) = (D.take i).flatMap (·.Lb) ++ (d.Lb ++ (D.drop (i + 1)).flatMap (·.Lb)) ∧ (D.set i d').flatMap (·.Lb) = (D.take i).flatMap (·.Lb) ++ (d'.Lb ++ (D.drop (i + 1)).flatMap (·.Lb)) := by
  have hi : i < D.length := (List.getElem?_eq_some_iff.1 hd).1
  have e : D = D.take i ++ (d :: D.drop (i + 1)) := by
    have := (List.getElem?_eq_some_iff.1 hd).2
    have e2 := List.drop_eq_getElem_cons hi
    rw [this] at e2
    rw [← e2, List.take_append_drop]
  constructor
  · conv => lhs; rw [e]
    simp
  · rw [List.set_eq_take_append_cons_drop, if_pos hi]; simp
/-- The block of an element of a row. -/
theorem OwnLL.cell (w : OwnLL R T sz h hs c rows M) (hr : rows[i]? = some r) (hh : hs[i]? = some (.slice pr nr cr)) (hk : r[k]? = some a) :
    ∃ (b : Nat) (cs us : List Value) (f : Obj → Own), pr = some ⟨b, 0, none⟩ ∧ At M b (row T cs) f ∧ OwnC R sz h cs r cr ∧ LookN cs (0 + k * sz) us ∧ R h us a ∧ us.length = sz ∧
      ∀ (h' : Heap) (cs' : List Value) (r' : List α), Ext h h' → OwnC R sz h' cs' r' cr → r'.length = r.length → (∀ {h h' : Heap} {cs : List Value} {a : α}, Ext h h' → R h cs a → R h' cs a) → OwnLL R T sz h' hs c (rows.set i r') (f (row T cs')) := by
  obtain ⟨D, a1, a2, a3, a4, a5, a6⟩ := w
  have hi : i < D.length := by rw [a3]; exact (List.getElem?_eq_some_iff.1 hr).1
  obtain ⟨d, hd⟩ := lt_get hi
  have hv := a5 i d hd
  rw [hh] at hv
  have hdv : Value.slice pr nr cr = d.v := by simpa using hv
  obtain ⟨dp, dn, dc, dL⟩ := d
  simp only [RowD.v, Value.slice.injEq] at hdv
  obtain ⟨rfl, rfl, rfl⟩ := hdv
  have hrow := a6 i _ r hd hr
  have hkl : k < r.length := (List.getElem?_eq_some_iff.1 hk).1
  obtain ⟨b, cs, rfl, rfl, hn, oc⟩ := OwnL.blk hrow hkl
  obtain ⟨us, hl, hR, hus⟩ := oc.get hk
  have hs1 : D.flatMap (·.Lb) = (D.take i).flatMap (·.Lb) ++ ((b, row T cs) :: (D.drop (i + 1)).flatMap (·.Lb)) := (flatMap_split hd ⟨none, 0, 0, []⟩).1
  have hmem : (b, row T cs) ∈ M := a4.mem_iff.2 (by rw [hs1]; simp)
  obtain ⟨M1, M2, hM⟩ := List.append_of_mem hmem
  refine ⟨b, cs, us, fun o' => M1 ++ (b, o') :: M2, rfl, ⟨M1, M2, hM, fun _ => rfl⟩, oc, hl, hR, hus, fun h' cs' r' e oc' hl' mo => ?_⟩
  refine ⟨D.set i ⟨some ⟨b, 0, none⟩, nr, cr, [(b, row T cs')]⟩, by rw [List.length_set]; exact a1, a2, by rw [List.length_set, List.length_set]; exact a3, ?_, fun j dj hj => ?_, fun j dj rj hj hrj => ?_⟩
  · rw [(flatMap_split hd ⟨some ⟨b, 0, none⟩, nr, cr, [(b, row T cs')]⟩).2]
    rw [hM, hs1] at a4
    have p1 : (M1 ++ M2).Perm ((D.take i).flatMap (·.Lb) ++ (D.drop (i + 1)).flatMap (·.Lb)) :=
      (List.perm_cons _).1 (List.perm_middle.symm.trans (a4.trans List.perm_middle))
    exact List.perm_middle.trans ((List.Perm.cons _ p1).trans List.perm_middle.symm)
  · by_cases hij : i = j
    · subst hij; rw [List.getElem?_set_self hi] at hj; cases hj; exact hh
    · rw [List.getElem?_set_ne hij] at hj; exact a5 j dj hj
  · by_cases hij : i = j
    · subst hij
      have hi' : i < rows.length := (List.getElem?_eq_some_iff.1 hr).1
      rw [List.getElem?_set_self hi] at hj
      rw [List.getElem?_set_self hi'] at hrj
      cases hj; cases hrj
      exact oc'.own (by rw [hn, hl'])
    · rw [List.getElem?_set_ne hij] at hj hrj
      have : Mo R := ⟨fun e x => mo e x⟩
      exact (a6 j dj rj hj hrj).mono
theorem OwnLL.cell2 {b0 : Nat} (w : OwnLL R T sz h hs c rows M) (hr : rows[i]? = some r) (hh : hs[i]? = some (.slice (some ⟨b0, 0, none⟩) nr cr)) (hk : r[k]? = some a) :
    ∃ (cs us : List Value) (f : Obj → Own), At M b0 (row T cs) f ∧ OwnC R sz h cs r cr ∧ LookN cs (0 + k * sz) us ∧ R h us a ∧ us.length = sz ∧
      ∀ (h' : Heap) (cs' : List Value) (r' : List α), Ext h h' → OwnC R sz h' cs' r' cr → r'.length = r.length → (∀ {h h' : Heap} {cs : List Value} {a : α}, Ext h h' → R h cs a → R h' cs a) → OwnLL R T sz h' hs c (rows.set i r') (f (row T cs')) := by
  obtain ⟨b, cs, us, f, e, h1⟩ := w.cell hr hh hk
  cases e
  exact ⟨cs, us, f, h1⟩
/-- A row, taken out; the list with another row in its place. -/
theorem OwnLL.row [mo : Mo R] (w : OwnLL R T sz h hs c rows M) (hr : rows[i]? = some r) (hh : hs[i]? = some (.slice pr nr cr)) :
    ∃ Li Mr, Rem M Li Mr ∧ Rem M Mr Li ∧ OwnL R T sz h (.slice pr nr cr) r Li ∧ ∀ (h' : Heap) (p' : Option Addr) (n' c' : Nat) (r' : List α) (Li' : Own), Ext h h' → OwnL R T sz h' (.slice p' n' c') r' Li' → OwnLL R T sz h' (hs.set i (.slice p' n' c')) c (rows.set i r') (Li' ++ Mr) := by
  obtain ⟨D, a1, a2, a3, a4, a5, a6⟩ := w
  have hi : i < D.length := by rw [a3]; exact (List.getElem?_eq_some_iff.1 hr).1
  have hi' : i < rows.length := (List.getElem?_eq_some_iff.1 hr).1
  obtain ⟨d, hd⟩ := lt_get hi
  have hv := a5 i d hd
  rw [hh] at hv
  have hdv : Value.slice pr nr cr = d.v := by simpa using hv
  have hrow := a6 i _ r hd hr
  rw [← hdv] at hrow
  have hp : M.Perm (d.Lb ++ ((D.take i).flatMap (·.Lb) ++ (D.drop (i + 1)).flatMap (·.Lb))) := by
    refine a4.trans ?_
    rw [(flatMap_split hd d).1, ← List.append_assoc, ← List.append_assoc]
    exact List.Perm.append_right _ List.perm_append_comm
  refine ⟨d.Lb, (D.take i).flatMap (·.Lb) ++ (D.drop (i + 1)).flatMap (·.Lb), ⟨hp⟩, ⟨hp.trans List.perm_append_comm⟩, hrow, fun h' p' n' c' r' Li' e w' => ?_⟩
  · refine ⟨D.set i ⟨p', n', c', Li'⟩, by rw [List.length_set]; exact a1, by rw [List.length_set]; exact a2, by rw [List.length_set, List.length_set]; exact a3, ?_, fun j dj hj => ?_, fun j dj rj hj hrj => ?_⟩
    · rw [(flatMap_split hd ⟨p', n', c', Li'⟩).2, ← List.append_assoc, ← List.append_assoc]
      exact List.Perm.append_right _ List.perm_append_comm
    · by_cases hij : i = j
      · subst hij; rw [List.getElem?_set_self hi] at hj; cases hj
        rw [List.getElem?_set_self (by rw [a2]; omega)]; rfl
      · rw [List.getElem?_set_ne hij] at hj; rw [List.getElem?_set_ne hij]; exact a5 j dj hj
    · by_cases hij : i = j
      · subst hij
        rw [List.getElem?_set_self hi] at hj
        rw [List.getElem?_set_self hi'] at hrj
        cases hj; cases hrj; exact w'
      · rw [List.getElem?_set_ne hij] at hj hrj
        exact (a6 j dj rj hj hrj).mono
theorem flat_one (v : Value) : ∀ n : Nat, (List.replicate n [v]).flatten = List.replicate n v
  | 0 => rfl
  | n + 1 => by rw [List.replicate_succ, List.flatten_cons, flat_one v n]; rfl
/-- Rows that are not there yet. -/
theorem OwnLL.mkN (h : Heap) (T : TypeId) (n : Nat) : OwnLL R T sz h (List.replicate n [Value.slice none 0 0]).flatten n (List.replicate n []) [] := by
  refine ⟨List.replicate n ⟨none, 0, 0, []⟩, by simp, by simp, by simp, ?_, fun i d hd => ?_, fun i d r hd hr => ?_⟩
  · have : (List.replicate n (⟨none, 0, 0, []⟩ : RowD)).flatMap (·.Lb) = [] := by
      induction n with
      | zero => rfl
      | succ n ih => rw [List.replicate_succ, List.flatMap_cons, ih]; rfl
    rw [this]
  · rw [List.getElem?_replicate] at hd
    split at hd
    · cases hd
      rw [flat_one, List.getElem?_replicate, if_pos ‹_›]; rfl
    · cases hd
  · rw [List.getElem?_replicate] at hd hr
    split at hd
    · cases hd
      rw [if_pos ‹_›] at hr
      cases hr
      exact OwnL.nil h
    · cases hd
end
end Go.Z
end
section
set_option linter.unusedSimpArgs false
set_option linter.unusedVariables false
/- The calculus beneath the proofs: rules for lists of lists that a function builds and changes. No program is named here. -/
set_option linter.unusedSimpArgs false
set_option linter.unusedVariables false
namespace Go.Z
open Go Go.RowKit
variable {C : Cfg} {Q Q' : Post} {ds : List Deferred} {ρ : Env} {h h1 h2 : Heap} {L L' Ls Lb M : Own} {ops : Array Oper} {rest : List Oper}
variable {d : Nat} {ty : TypeId} {pos : String} {after : Array Edge} {S : World → Prop}
instance (priority := 500) Sp.last {L L' Lb : Own} [r : Rem L Lb L'] : Sp Lb L := ⟨L', r.p⟩
instance (priority := 900) Rem.appl {L M Lb M' : Own} [a : Rem M Lb M'] : Rem (M ++ L) Lb (M' ++ L) := ⟨by
  rw [← List.append_assoc]; exact List.Perm.append_right _ a.p⟩
instance (priority := 400) Rem.comp {L L1 L2 A B : Own} [a : Rem L A L1] [b : Rem L1 B L2] : Rem L (A ++ B) L2 := ⟨by
  rw [List.append_assoc]; exact a.p.trans (List.Perm.append_left A b.p)⟩
instance (priority := 400) Rem.comp1 {L L1 L2 B : Own} {x : Nat × Obj} [a : Rem L [x] L1] [b : Rem L1 B L2] : Rem L (x :: B) L2 := ⟨a.p.trans (List.Perm.cons x b.p)⟩
theorem setL_len {α : Type} {i : Int} {l : List α} {a : α} : (setL l i a).length = l.length := by unfold setL; rw [List.length_set]
theorem hdr_at {hs : List Value} {i : Nat} {v : Value} (h : hs[i]? = some v) : hs[0 + i * 1]? = some v := by rw [Nat.zero_add, Nat.mul_one]; exact h
section
variable {α : Type} {R : Heap → List Value → α → Prop} {T T0 e : TypeId} {sz i k c n : Nat} {hs : List Value} {rows : List (List α)} {r : List α} {a : α} {pr : Option Addr} {nr cr : Nat} {x y : Operand} {v : Value}
/-- make of a list of lists -/
theorem o_mkLL {T2 by' : Nat} {q q' : IntKind} {j : Int} [hu : Sl C.P T2 e] [hs : Sz C.P e 1] [hb : By C.P e by'] [hz : Zv C.P e [.slice none 0 0]] (hx : ρ.ev x = .int q j) (hy : ρ.ev y = .int q' j) (hm : mkl j ([] : List α) = some rows)
    (k : ∀ g hs, OwnLL R T sz h hs rows.length rows [] → JL C ops Q rest ds (ρ.set d (.slice (some ⟨g, 0, none⟩) rows.length rows.length)) h ((g, row e hs) :: L)) (hn : Nat.blt d C.n = true := by rfl) (hby : Nat.ble by' 100000 = true := by rfl) :
    JL C ops Q (⟨some d, .makeSlice T2 x y, ty, pos, after, none⟩ :: rest) ds ρ h L := by
  obtain ⟨h1, h2, h3⟩ := mkl_some hm
  have hb3 : rows.length * by' ≤ 140737488355328 := Nat.le_trans (Nat.mul_le_mul h2 (Nat.le_of_ble_eq_true hby)) (by decide)
  have hx' : ρ.ev x = .int q (rows.length : Int) := by rw [hx, h1]
  have hy' : ρ.ev y = .int q' (rows.length : Int) := by rw [hy, h1]
  refine o_mk (n := rows.length) (m := rows.length) hx' hy' rfl rfl (Nat.le_refl _) hb3 (by omega) (fun g => ?_) hn rfl
  refine k _ _ ?_
  have := OwnLL.mkN (R := R) (sz := sz) h T rows.length
  rwa [← h3] at this
/-- A store of a slice into the outer list. -/
theorem o_stH {T1 : TypeId} {f : Obj → Own} {b : Nat} [hs1 : Sz C.P T1 1] (hx : ρ.ev x = .pointer (some ⟨b, 0 + i * 1, none⟩)) (hy : ρ.ev y = .slice pr nr cr) (A : At L b (row T0 hs) f) (hi : i < hs.length)
    (k : JL C ops Q rest ds ρ h (f (row T0 (hs.set i (.slice pr nr cr))))) : JL C ops Q (⟨none, .store T1 x y, ty, pos, after, none⟩ :: rest) ds ρ h L := by
  refine o_st1 hx hy rfl A (by omega) ?_
  rw [Nat.zero_add, Nat.mul_one]; exact k
theorem OwnLL.hlen (w : OwnLL R T sz h hs c rows M) (hr : rows[i]? = some r) : i < hs.length := by
  obtain ⟨D, a1, a2, _⟩ := w
  have := (List.getElem?_eq_some_iff.1 hr).1
  omega
/-- A store into an element of a row. -/
theorem o_stLL {f : Obj → Own} {ps us us1 cs : List Value} {l2 : List α} {j b : Nat} (hs : ∃ i, C.P.info? T = some i ∧ i.size = ps.length) (hx : ρ.ev x = .pointer (some ⟨b, 0 + k * sz + j, none⟩)) (hy : ρ.ev y = v) (hv : v.cells = ⟨ps⟩) (hpl : ps.all plain = true)
    (oc : OwnC R sz h cs r cr) (A : At L b (row T0 cs) f) (hk : k < r.length) (hl : LookN cs (0 + k * sz) us) (hxs : us.length = sz) (hj : j + ps.length ≤ sz) (he : setN us j ps = us1) (hR : R h us1 a) (hl2 : l2 = r.set k a)
    (kk : ∀ cs', OwnC R sz h cs' l2 cr → JL C ops Q rest ds ρ h (f (row T0 cs'))) :
    JL C ops Q (⟨none, .store T x y, ty, pos, after, none⟩ :: rest) ds ρ h L := o_stO hs hx hy hv hpl oc A hk hl hxs hj he hR hl2 kk
theorem o_stLL0 {f : Obj → Own} {ps us us1 cs : List Value} {l2 : List α} {b : Nat} (hs : ∃ i, C.P.info? T = some i ∧ i.size = ps.length) (hx : ρ.ev x = .pointer (some ⟨b, 0 + k * sz, none⟩)) (hy : ρ.ev y = v) (hv : v.cells = ⟨ps⟩) (hpl : ps.all plain = true)
    (oc : OwnC R sz h cs r cr) (A : At L b (row T0 cs) f) (hk : k < r.length) (hl : LookN cs (0 + k * sz) us) (hxs : us.length = sz) (hj : 0 + ps.length ≤ sz) (he : setN us 0 ps = us1) (hR : R h us1 a) (hl2 : l2 = r.set k a)
    (kk : ∀ cs', OwnC R sz h cs' l2 cr → JL C ops Q rest ds ρ h (f (row T0 cs'))) :
    JL C ops Q (⟨none, .store T x y, ty, pos, after, none⟩ :: rest) ds ρ h L := o_stO0 hs hx hy hv hpl oc A hk hl hxs hj he hR hl2 kk
theorem J.fzL {c : Code} : ∀ (M : Own) {h : Heap}, (∀ h', Ext h h' → (∀ p ∈ M, h' p.1 = some p.2) → J C c Q ds ρ h' L) → J C c Q ds ρ h (M ++ L)
  | [], h, k => k h (Ext.refl h) (fun p hp => by cases hp)
  | (b, o) :: M, h, k => J.freeze fun h' st hb => J.fzL M fun h'' e hM => k h'' ⟨fun x y z => e.le x y (st.le x y z)⟩ fun p hp => by
      rcases List.mem_cons.1 hp with rfl | hp
      · exact e.le _ _ hb
      · exact hM p hp
theorem OwnL.frozen [Mo R] {l : List α} (w : OwnL R T sz h1 v l Lb) (e : Ext h1 h) (hM : ∀ p ∈ Lb, h p.1 = some p.2) : Sls R sz h v l := by
  obtain ⟨xs, ho, hc⟩ := w
  rcases ho.split with ⟨rfl, hs⟩ | ⟨b, ob, rfl, hs⟩
  · exact ⟨xs, hs h, hc.mono⟩
  · exact ⟨xs, hs h (hM (b, ob) (by simp)), hc.mono⟩
/-- A list of lists is written no more. -/
theorem J.fzLL [mo : Mo R] {cd : Code} {T2 b : Nat} (w : OwnLL R T sz h hs c rows M) (hn : n = rows.length) [r1 : Rem L [(b, row T2 hs)] L'] [r2 : Rem L' M Lb]
    (k : ∀ h', Step h h' → Sls (LR R sz) 1 h' (.slice (some ⟨b, 0, none⟩) n c) rows → J C cd Q ds ρ h' Lb) : J C cd Q ds ρ h L := by
  subst hn
  refine J.perm r1.p (J.freeze fun h1 s1 hb => J.perm r2.p (J.fzL M fun h2 e hM => k h2 ⟨fun x y z => e.le x y (s1.le x y z)⟩ ?_))
  obtain ⟨D, a1, a2, a3, a4, a5, a6⟩ := w
  have hb2 := e.le _ _ hb
  have hlen : (hs.take rows.length).length = rows.length := by rw [List.length_take]; omega
  refine ⟨hs.take rows.length, ⟨_, c, rfl, a1, by rw [hlen, Nat.mul_one], .inr ⟨b, 0, rfl, hs, T2, _, hb2, ?_⟩⟩, by rw [hlen, Nat.mul_one], fun i r hr => ?_⟩
  · exact LookN.of_get fun j u hj => by
      rw [List.getElem?_take] at hj
      split at hj
      · rw [Nat.zero_add]; exact hj
      · cases hj
  · have hi : i < rows.length := (List.getElem?_eq_some_iff.1 hr).1
    obtain ⟨d, hd⟩ := lt_get (show i < D.length by omega)
    have hh := a5 i d hd
    have hrow := (a6 i d r hd hr).frozen (h := h2) ⟨fun x y z => e.le x y (s1.le x y z)⟩ (fun p hp => hM p (a4.mem_iff.2 (List.mem_flatMap.2 ⟨d, List.mem_of_getElem? hd, hp⟩)))
    have : ((hs.take rows.length).drop (i * 1)).take 1 = [d.v] := by
      refine List.ext_getElem? fun j => ?_
      rw [List.getElem?_take]
      rcases Nat.eq_zero_or_pos j with rfl | hj
      · rw [if_pos (by decide), List.getElem?_drop, List.getElem?_take, if_pos (by omega), Nat.mul_one, Nat.add_zero, hh]; rfl
      · rw [if_neg (by omega), List.getElem?_eq_none (by simp; omega)]
    rw [this]
    exact ⟨_, _, _, rfl, hrow⟩
/-- append of a row of one's own. -/
theorem OwnLL.snoc [mo : Mo R] {hs' : List Value} {p : Option Addr} {m c' c'' : Nat} {Li : Own} (w : OwnLL R T sz h hs c rows M) (hr : OwnL R T sz h (.slice p m c') r Li) (h1 : rows.length + 1 ≤ c'') (h2 : hs'.length = c'') (h3 : ∀ i, i < rows.length → hs'[i]? = hs[i]?) (h4 : hs'[rows.length]? = some (.slice p m c')) :
    OwnLL R T sz h hs' c'' (rows ++ [r]) (Li ++ M) := by
  obtain ⟨D, a1, a2, a3, a4, a5, a6⟩ := w
  refine ⟨D ++ [⟨p, m, c', Li⟩], by simp; omega, h2, by simp [a3], ?_, fun i d hd => ?_, fun i d r' hd hr' => ?_⟩
  · rw [List.flatMap_append]
    simp only [List.flatMap_cons, List.flatMap_nil, List.append_nil]
    exact (List.Perm.append_left Li a4).trans List.perm_append_comm
  · rcases Nat.lt_or_ge i D.length with hi | hi
    · rw [List.getElem?_append_left hi] at hd
      rw [h3 i (by omega)]; exact a5 i d hd
    · rw [List.getElem?_append_right hi] at hd
      have : i = D.length := by
        rcases Nat.lt_or_ge (i - D.length) 1 with h | h
        · omega
        · rw [List.getElem?_eq_none (by simpa using h)] at hd; cases hd
      subst this
      simp at hd; subst hd
      rw [a3]; exact h4
  · rcases Nat.lt_or_ge i D.length with hi | hi
    · rw [List.getElem?_append_left hi] at hd
      rw [List.getElem?_append_left (by omega)] at hr'
      exact a6 i d r' hd hr'
    · rw [List.getElem?_append_right hi] at hd
      have : i = D.length := by
        rcases Nat.lt_or_ge (i - D.length) 1 with h | h
        · omega
        · rw [List.getElem?_eq_none (by simpa using h)] at hd; cases hd
      subst this
      simp at hd; subst hd
      rw [a3] at hr'
      simp at hr'; subst hr'
      exact hr
end
end Go.Z
end
section
set_option linter.unusedSimpArgs false
set_option linter.unusedVariables false
/- What the calculus must know of maps and arrays of this seat. -/
namespace Go.Z
open Go Go.Proofs
instance : Ar Try.prog 30 2 29 := ⟨by kernel_rfl⟩
instance : Mp Try.prog 96 3 37 := ⟨by kernel_rfl, by kernel_rfl⟩
instance : Ar Try.prog 138 0 16 := ⟨by kernel_rfl⟩
instance : Zw Try.prog 37 (.agg ⟨[.bool false, .slice none 0 0]⟩) := zw_of (by kernel_rfl)
end Go.Z
end
section
set_option linter.unusedSimpArgs false
set_option linter.unusedVariables false
/- The examples that every law of this chapter asks first, walked. -/
set_option linter.unusedSimpArgs false
set_option linter.unusedVariables false
namespace Go.Z
open Go Go.RowKit Go.Proofs
theorem eg_merge : mergeL (-2) [(0, 2), (3, 1)] [(0, 1), (1, 5)] = [(1, -10), (3, 1)] := by simp [mergeL, keep]
theorem eg_from : [[(0 : Int), 2], [0, 0]].map sprow = [[(1, 2)], []] := by decide
theorem eg_times : timesL [3, 4] [[(1, 2)], []] (List.replicate (2 : Int).toNat 0) = [0, 6] := by decide
theorem eg_v1 : validS 2 2 (crs [[(1, 2)], []]) = true := by rw [validS_crs]; decide
theorem eg_v2 : validS 0 0 [] = true := by decide
theorem eg_v3 : validS 1 0 [] = false := by decide
theorem eg_v4 : validS 1 2 (crs [[(1, 0)]]) = false := by rw [validS_crs]; decide
theorem eg_v5 : validS 1 2 (crs [[(2, 1)]]) = false := by rw [validS_crs]; decide
set_option maxHeartbeats 8000000 in
theorem sanity_fn {h : Heap} :
    Fn Try.prog 9 #[] h fun r _ => r = .bool true := by
  refine Fn.intro (args := []) Try.func9 rfl rfl (Nat.le_of_ble_eq_true rfl) fun w => ?_
  refine J.seq ?_
  refine J.region ?_
  refine o_q (q_as) ?_
  refine JL.nil ?_
  refine J.seq ?_
  refine J.region ?_
  refine o_call (term_fn (by decide)) (fun v18 h18 s18 r18 => ?_)
  obtain ⟨p18, n18, c18, rfl, q18⟩ := r18.out
  refine o_call (term_fn (by decide)) (fun v19 h19 s19 r19 => ?_)
  obtain ⟨p19, n19, c19, rfl, q19⟩ := r19.out
  refine o_bs [.int _ _, .bool _, .slice _ _ _, .int _ _, .bool _, .slice _ _ _] (by decide) rfl (fun b20 => ?_)
  refine JL.fz b20 (fun hh20 ss20 hb20 => ?_)
  have k18 := Mo.mono' (R := TermR) (h' := hh20) q18
  have k19 := Mo.mono' (R := TermR) (h' := hh20) q19
  have ra := Sls.lit 2 hb20 (Cells.two k18 k19 rfl rfl rfl) rfl
  replace ra : RowAt hh20 _ (cr [(0, 2), (3, 1)]) := ra
  first | refine o_q (q_asv (v := .slice _ _ _) rfl) ?_ | refine o_q (q_as) ?_
  refine JL.nil ?_
  refine J.seq ?_
  refine J.region ?_
  refine o_call (term_fn (by decide)) (fun v21 h21 s21 r21 => ?_)
  obtain ⟨p21, n21, c21, rfl, q21⟩ := r21.out
  refine o_call (term_fn (by decide)) (fun v22 h22 s22 r22 => ?_)
  obtain ⟨p22, n22, c22, rfl, q22⟩ := r22.out
  refine o_bs [.int _ _, .bool _, .slice _ _ _, .int _ _, .bool _, .slice _ _ _] (by decide) rfl (fun b23 => ?_)
  refine JL.fz b23 (fun hh23 ss23 hb23 => ?_)
  have k21 := Mo.mono' (R := TermR) (h' := hh23) q21
  have k22 := Mo.mono' (R := TermR) (h' := hh23) q22
  have rb := Sls.lit 2 hb23 (Cells.two k21 k22 rfl rfl rfl) rfl
  replace rb : RowAt hh23 _ (cr [(0, 1), (1, 5)]) := rb
  first | refine o_q (q_asv (v := .slice _ _ _) rfl) ?_ | refine o_q (q_as) ?_
  refine JL.nil ?_
  refine J.seq ?_
  refine J.region ?_
  first | refine o_q (q_mvv (v := .slice _ _ _) rfl) ?_ | refine o_q (q_mv) ?_
  first | refine o_q (q_mvv (v := .slice _ _ _) rfl) ?_ | refine o_q (q_mv) ?_
  refine o_call (of_fn (by decide)) (fun v26 h26 s26 r26 => ?_)
  refine o_call (merge_fn ra.mono rb.mono r26 (by decide) (by decide) (by decide) (by decide) (by decide)) (fun v27 h27 s27 r27 => ?_)
  rw [eg_merge] at r27
  obtain ⟨pm, cm, rfl, _⟩ := r27.out
  first | refine o_q (q_asv (v := .slice _ _ _) rfl) ?_ | refine o_q (q_as) ?_
  refine JL.nil ?_
  refine J.seq ?_
  refine J.region ?_
  refine o_call (of_fn (by decide)) (fun v28 h28 s28 r28 => ?_)
  obtain ⟨p28, n28, c28, rfl, q28⟩ := r28.outR
  refine o_call (of_fn (by decide)) (fun v29 h29 s29 r29 => ?_)
  obtain ⟨p29, n29, c29, rfl, q29⟩ := r29.outR
  refine o_bs [.bool _, .slice _ _ _, .bool _, .slice _ _ _] (by decide) rfl (fun b30 => ?_)
  refine JL.fz b30 (fun hh30 ss30 hb30 => ?_)
  have k28 := Mo.mono' (R := IntR) (h' := hh30) q28
  have k29 := Mo.mono' (R := IntR) (h' := hh30) q29
  have va := Sls.lit 2 hb30 (Cells.two k28 k29 rfl rfl rfl) rfl
  refine o_call (of_fn (by decide)) (fun v31 h31 s31 r31 => ?_)
  obtain ⟨p31, n31, c31, rfl, q31⟩ := r31.outR
  refine o_call (of_fn (by decide)) (fun v32 h32 s32 r32 => ?_)
  obtain ⟨p32, n32, c32, rfl, q32⟩ := r32.outR
  refine o_bs [.bool _, .slice _ _ _, .bool _, .slice _ _ _] (by decide) rfl (fun b33 => ?_)
  refine JL.fz b33 (fun hh33 ss33 hb33 => ?_)
  have k31 := Mo.mono' (R := IntR) (h' := hh33) q31
  have k32 := Mo.mono' (R := IntR) (h' := hh33) q32
  have vb := Sls.lit 2 hb33 (Cells.two k31 k32 rfl rfl rfl) rfl
  refine o_bs [.slice _ _ _, .slice _ _ _] (by decide) rfl (fun b34 => ?_)
  refine JL.fz b34 (fun hh34 ss34 hb34 => ?_)
  have ma := Sls.lit 2 hb34 (Cells.two (R := One VecAt) ⟨_, _, _, rfl, va.mono⟩ ⟨_, _, _, rfl, vb.mono⟩ rfl rfl rfl) rfl
  have mat : MatAt hh34 (.agg ⟨[.int .i64 2, .int .i64 2, .slice (some ⟨b34, 0, none⟩) 2 2]⟩) 2 2 [[0, 2], [0, 0]] := ⟨_, _, rfl, ma⟩
  first | refine o_q (q_bd [.int _ _, .int _ _, .slice _ _ _] rfl) ?_ | refine o_q (q_bd [_, _, _] rfl) ?_
  refine o_call (from_fn mat (by decide) (by decide) (fun r hr => fitsv (by revert r; decide))) (fun v36 h36 s36 r36 => ?_)
  rw [eg_from] at r36
  obtain ⟨pS, cS, rfl, hS⟩ := r36
  replace hS : RowsAt h36 (.slice pS 2 cS) (crs [[(1, 2)], []]) := hS
  refine o_al (fun b4 => ?_)
  refine o_stw (vs := [_, _, _]) rfl rfl rfl inferInstance rfl rfl ?_
  refine JL.nil ?_
  refine J.seq ?_
  refine J.region ?_
  refine o_call (term_fn (by decide)) (fun v37 h37 s37 r37 => ?_)
  obtain ⟨p37, n37, c37, rfl, q37⟩ := r37.out
  refine o_bs [.int _ _, .bool _, .slice _ _ _] (by decide) rfl (fun b38 => ?_)
  refine JL.fz b38 (fun hh38 ss38 hb38 => ?_)
  have k37 := Mo.mono' (R := TermR) (h' := hh38) q37
  have rc := Sls.lit 1 hb38 (Cells.one k37 rfl) rfl
  refine o_bs [] (by decide) rfl (fun b39 => ?_)
  refine JL.fz b39 (fun hh39 ss39 hb39 => ?_)
  have rd : RowAt hh39 (.slice (some ⟨b39, 0, none⟩) 0 0) (cr []) := Sls.lit 0 hb39 Cells.nil rfl
  refine o_bs [.slice _ _ _, .slice _ _ _] (by decide) rfl (fun b40 => ?_)
  refine JL.fz b40 (fun hh40 ss40 hb40 => ?_)
  have wa := Sls.lit 2 hb40 (Cells.two (R := One RowAt) ⟨_, _, _, rfl, rc.mono⟩ ⟨_, _, _, rfl, rd.mono⟩ rfl rfl rfl) rfl
  replace wa : RowsAt hh40 (.slice (some ⟨b40, 0, none⟩) 2 2) (crs [[(1, 2)], []]) := wa
  first | refine o_q (q_bd [.int _ _, .int _ _, .slice _ _ _] rfl) ?_ | refine o_q (q_bd [_, _, _] rfl) ?_
  refine o_al (fun b5 => ?_)
  refine o_stw (vs := [_, _, _]) rfl rfl rfl inferInstance rfl rfl ?_
  refine JL.nil ?_
  -- cut: kept [1, 3, 4, 5], said [7]
  first | refine J.cutK (α := Unit) (fun _ h' L' => List.Sublist [(b5, row 24 [.int .i64 2, .int .i64 2, .slice (some ⟨b40, 0, none⟩) 2 2]), (b4, row 24 [.int .i64 2, .int .i64 2, .slice pS 2 cS])] L') [(1, .slice _ _ _), (3, .slice _ _ _), (4, .pointer _), (5, .pointer _)] ⟨rfl, rfl, rfl, rfl, trivial⟩ (fun _ => [(7, .int .i64 50)]) ?_ ?_ | refine J.cutK (α := Unit) (fun _ h' L' => List.Sublist [(b5, row 24 [.int .i64 2, .int .i64 2, .slice (some ⟨b40, 0, none⟩) 2 2]), (b4, row 24 [.int .i64 2, .int .i64 2, .slice pS 2 cS])] L') [(1, _), (3, _), (4, _), (5, _)] ⟨rfl, rfl, rfl, rfl, trivial⟩ (fun _ => [(7, .int .i64 50)]) ?_ ?_
  ·
    refine J.drawA [8] ?_
    refine JD.load 0 (by kernel_rfl) rfl trivial (q_lda (vs := [_, _, _]) rfl inferInstance ⟨rfl, rfl, rfl, trivial⟩) ?_
    refine JD.all [1, 7] (by kernel_rfl) rfl ⟨?_, ?_, trivial⟩
    ·
      refine JX.eff rfl rfl trivial ?_
      refine o_mk (n := 3) (m := 3) rfl rfl rfl rfl (by decide) (by decide) (by decide) (fun b44 => ?_)
      refine JL.nil ⟨rfl, inferInstance, inferInstance, ?_⟩
      first | refine JD.calc 2 (by kernel_rfl) rfl trivial ss_sub (q_bd [.int _ _, .int _ _, .slice _ _ _] rfl) ?_ | refine JD.calc 2 (by kernel_rfl) rfl trivial ss_sub (q_bd [_, _, _] rfl) ?_
      refine JD.all [3, 7] (by kernel_rfl) rfl ⟨?_, ?_, trivial⟩
      ·
        refine JX.eff rfl rfl trivial ?_
        refine o_call (mul_err (by decide)) (fun v46 hv46 sv46 ev46 => ?_)
        subst ev46
        refine JL.nil ⟨rfl, inferInstance, inferInstance, ?_⟩
        refine JD.calc 4 (by kernel_rfl) rfl trivial ss_sub (q_mv) ?_
        refine JD.calc 5 (by kernel_rfl) rfl trivial ss_sub (q_ex rfl rfl) ?_
        refine JD.calc 6 (by kernel_rfl) rfl trivial ss_sub (q_ex rfl rfl) ?_
        refine JD.one 7 (by kernel_rfl) ?_
        refine JX.eff rfl rfl trivial ?_
        refine o_al (fun b6 => ?_)
        refine JL.nil ⟨rfl, inferInstance, inferInstance, ?_⟩
        refine JD.one 8 (by kernel_rfl) ?_
        refine JX.mut rfl rfl trivial ?_
        refine o_stw (vs := [_, _, _]) rfl rfl rfl inferInstance rfl rfl ?_
        refine JL.nil ⟨rfl, ?_⟩
        first | refine JD.calc 9 (by kernel_rfl) rfl trivial ss_top (q_asv (v := .int _ _) rfl) ?_ | refine JD.calc 9 (by kernel_rfl) rfl trivial ss_top (q_as) ?_
        refine JD.done (by kernel_rfl) ?_ _
        exact ⟨(), rfl, ⟨rfl, rfl, rfl, rfl, trivial⟩, ⟨rfl, trivial⟩, (by repeat' first | exact List.Sublist.refl _ | apply List.Sublist.cons_cons | exact List.nil_sublist _ | apply List.Sublist.cons), inferInstance⟩
      ·
        refine JX.eff rfl rfl trivial ?_
        refine o_al (fun b6 => ?_)
        refine JL.nil ⟨rfl, inferInstance, inferInstance, ?_⟩
        refine JD.one 3 (by kernel_rfl) ?_
        refine JX.eff rfl rfl trivial ?_
        refine o_call (mul_err (by decide)) (fun v46 hv46 sv46 ev46 => ?_)
        subst ev46
        refine JL.nil ⟨rfl, inferInstance, inferInstance, ?_⟩
        refine JD.calc 4 (by kernel_rfl) rfl trivial ss_sub (q_mv) ?_
        refine JD.calc 5 (by kernel_rfl) rfl trivial ss_sub (q_ex rfl rfl) ?_
        refine JD.calc 6 (by kernel_rfl) rfl trivial ss_sub (q_ex rfl rfl) ?_
        refine JD.one 8 (by kernel_rfl) ?_
        refine JX.mut rfl rfl trivial ?_
        refine o_stw (vs := [_, _, _]) rfl rfl rfl inferInstance rfl rfl ?_
        refine JL.nil ⟨rfl, ?_⟩
        first | refine JD.calc 9 (by kernel_rfl) rfl trivial ss_top (q_asv (v := .int _ _) rfl) ?_ | refine JD.calc 9 (by kernel_rfl) rfl trivial ss_top (q_as) ?_
        refine JD.done (by kernel_rfl) ?_ _
        exact ⟨(), rfl, ⟨rfl, rfl, rfl, rfl, trivial⟩, ⟨rfl, trivial⟩, (by repeat' first | exact List.Sublist.refl _ | apply List.Sublist.cons_cons | exact List.nil_sublist _ | apply List.Sublist.cons), inferInstance⟩
    ·
      refine JX.eff rfl rfl trivial ?_
      refine o_al (fun b6 => ?_)
      refine JL.nil ⟨rfl, inferInstance, inferInstance, ?_⟩
      refine JD.one 1 (by kernel_rfl) ?_
      refine JX.eff rfl rfl trivial ?_
      refine o_mk (n := 3) (m := 3) rfl rfl rfl rfl (by decide) (by decide) (by decide) (fun b44 => ?_)
      refine JL.nil ⟨rfl, inferInstance, inferInstance, ?_⟩
      first | refine JD.calc 2 (by kernel_rfl) rfl trivial ss_sub (q_bd [.int _ _, .int _ _, .slice _ _ _] rfl) ?_ | refine JD.calc 2 (by kernel_rfl) rfl trivial ss_sub (q_bd [_, _, _] rfl) ?_
      refine JD.one 3 (by kernel_rfl) ?_
      refine JX.eff rfl rfl trivial ?_
      refine o_call (mul_err (by decide)) (fun v46 hv46 sv46 ev46 => ?_)
      subst ev46
      refine JL.nil ⟨rfl, inferInstance, inferInstance, ?_⟩
      refine JD.calc 4 (by kernel_rfl) rfl trivial ss_sub (q_mv) ?_
      refine JD.calc 5 (by kernel_rfl) rfl trivial ss_sub (q_ex rfl rfl) ?_
      refine JD.calc 6 (by kernel_rfl) rfl trivial ss_sub (q_ex rfl rfl) ?_
      refine JD.one 8 (by kernel_rfl) ?_
      refine JX.mut rfl rfl trivial ?_
      refine o_stw (vs := [_, _, _]) rfl rfl rfl inferInstance rfl rfl ?_
      refine JL.nil ⟨rfl, ?_⟩
      first | refine JD.calc 9 (by kernel_rfl) rfl trivial ss_top (q_asv (v := .int _ _) rfl) ?_ | refine JD.calc 9 (by kernel_rfl) rfl trivial ss_top (q_as) ?_
      refine JD.done (by kernel_rfl) ?_ _
      exact ⟨(), rfl, ⟨rfl, rfl, rfl, rfl, trivial⟩, ⟨rfl, trivial⟩, (by repeat' first | exact List.Sublist.refl _ | apply List.Sublist.cons_cons | exact List.nil_sublist _ | apply List.Sublist.cons), inferInstance⟩
  ·
    rintro _ σ6 hc6 L6 sc6 hsub6
    refine J.sub hsub6 ?_
    -- cut: kept [1, 3, 4, 5, 7], said [9]
    first | refine J.cutK (α := Unit) (fun _ h' L' => List.Sublist [(b5, row 24 [.int .i64 2, .int .i64 2, .slice (some ⟨b40, 0, none⟩) 2 2]), (b4, row 24 [.int .i64 2, .int .i64 2, .slice pS 2 cS])] L') [(1, .slice _ _ _), (3, .slice _ _ _), (4, .pointer _), (5, .pointer _), (7, .int _ _)] ⟨rfl, rfl, rfl, rfl, rfl, trivial⟩ (fun _ => [(9, .int .i64 50)]) ?_ ?_ | refine J.cutK (α := Unit) (fun _ h' L' => List.Sublist [(b5, row 24 [.int .i64 2, .int .i64 2, .slice (some ⟨b40, 0, none⟩) 2 2]), (b4, row 24 [.int .i64 2, .int .i64 2, .slice pS 2 cS])] L') [(1, _), (3, _), (4, _), (5, _), (7, _)] ⟨rfl, rfl, rfl, rfl, rfl, trivial⟩ (fun _ => [(9, .int .i64 50)]) ?_ ?_
    ·
      refine J.drawA [] ?_
      refine JD.load 2 (by kernel_rfl) rfl trivial (q_lda (vs := [_, _, _]) rfl inferInstance ⟨rfl, rfl, rfl, trivial⟩) ?_
      refine JD.one 0 (by kernel_rfl) ?_
      refine JX.eff rfl rfl trivial ?_
      refine o_call (of_fn (by decide)) (fun v50 h50 s50 r50 => ?_)
      obtain ⟨p50, n50, c50, rfl, q50⟩ := r50.outR
      refine JL.nil ⟨rfl, inferInstance, inferInstance, ?_⟩
      refine JD.one 1 (by kernel_rfl) ?_
      refine JX.eff rfl rfl trivial ?_
      refine o_bs [.bool _, .slice _ _ _] (by decide) rfl (fun b51 => ?_)
      refine JL.fz b51 (fun hh51 ss51 hb51 => ?_)
      have k50 := Mo.mono' (R := IntR) (h' := hh51) q50
      have vd := Sls.lit 1 hb51 (Cells.one k50 rfl) rfl
      refine JL.nil ⟨rfl, inferInstance, inferInstance, ?_⟩
      refine JD.one 3 (by kernel_rfl) ?_
      refine JX.eff rfl rfl trivial ?_
      refine o_call (times_err (by decide)) (fun v53 hv53 sv53 ev53 => ?_)
      subst ev53
      refine JL.nil ⟨rfl, inferInstance, inferInstance, ?_⟩
      refine JD.calc 4 (by kernel_rfl) rfl trivial ss_sub (q_mv) ?_
      refine JD.calc 5 (by kernel_rfl) rfl trivial ss_sub (q_ex rfl rfl) ?_
      refine JD.calc 6 (by kernel_rfl) rfl trivial ss_sub (q_ex rfl rfl) ?_
      first | refine JD.calc 7 (by kernel_rfl) rfl trivial ss_sub (q_asv (v := .slice _ _ _) rfl) ?_ | refine JD.calc 7 (by kernel_rfl) rfl trivial ss_sub (q_as) ?_
      first | refine JD.calc 8 (by kernel_rfl) rfl trivial ss_sub (q_asv (v := .int _ _) rfl) ?_ | refine JD.calc 8 (by kernel_rfl) rfl trivial ss_sub (q_as) ?_
      refine JD.done (by kernel_rfl) ?_ _
      exact ⟨(), rfl, ⟨rfl, rfl, rfl, rfl, rfl, trivial⟩, ⟨rfl, trivial⟩, (by repeat' first | exact List.Sublist.refl _ | apply List.Sublist.cons_cons | exact List.nil_sublist _ | apply List.Sublist.cons), inferInstance⟩
    ·
      rintro _ σ7 hc7 L7 sc7 hsub7
      refine J.sub hsub7 ?_
      -- cut: kept [1, 3, 4, 5, 7, 9], said [11]
      first | refine J.cutK (α := Unit) (fun _ h' L' => List.Sublist [(b5, row 24 [.int .i64 2, .int .i64 2, .slice (some ⟨b40, 0, none⟩) 2 2]), (b4, row 24 [.int .i64 2, .int .i64 2, .slice pS 2 cS])] L') [(1, .slice _ _ _), (3, .slice _ _ _), (4, .pointer _), (5, .pointer _), (7, .int _ _), (9, .int _ _)] ⟨rfl, rfl, rfl, rfl, rfl, rfl, trivial⟩ (fun _ => [(11, .int .i64 1)]) ?_ ?_ | refine J.cutK (α := Unit) (fun _ h' L' => List.Sublist [(b5, row 24 [.int .i64 2, .int .i64 2, .slice (some ⟨b40, 0, none⟩) 2 2]), (b4, row 24 [.int .i64 2, .int .i64 2, .slice pS 2 cS])] L') [(1, _), (3, _), (4, _), (5, _), (7, _), (9, _)] ⟨rfl, rfl, rfl, rfl, rfl, rfl, trivial⟩ (fun _ => [(11, .int .i64 1)]) ?_ ?_
      ·
        refine J.region ?_
        refine o_q (q_lda (vs := [_, _, _]) rfl inferInstance ⟨rfl, rfl, rfl, trivial⟩) ?_
        refine o_call (insert_err1 (.inr ⟨by decide, by decide⟩)) (fun v58 hv58 sv58 ev58 => ?_)
        subst ev58
        refine o_q (q_mv) ?_
        refine o_q (q_ex rfl rfl) ?_
        refine o_q (q_ex rfl rfl) ?_
        refine o_al (fun b10 => ?_)
        refine o_stw (vs := [_, _, _]) rfl rfl rfl inferInstance rfl rfl ?_
        first | refine o_q (q_asv (v := .int _ _) rfl) ?_ | refine o_q (q_as) ?_
        refine JL.nil ?_
        exact ⟨(), rfl, ⟨rfl, rfl, rfl, rfl, rfl, rfl, trivial⟩, ⟨rfl, trivial⟩, (by repeat' first | exact List.Sublist.refl _ | apply List.Sublist.cons_cons | exact List.nil_sublist _ | apply List.Sublist.cons), inferInstance⟩
      ·
        rintro _ σ8 hc8 L8 sc8 hsub8
        refine J.sub hsub8 ?_
        -- cut: kept [3, 4, 5, 7, 9, 11], said [13]
        first | refine J.cutK (α := Unit) (fun _ h' L' => List.Sublist [(b5, row 24 [.int .i64 2, .int .i64 2, .slice (some ⟨b40, 0, none⟩) 2 2]), (b4, row 24 [.int .i64 2, .int .i64 2, .slice pS 2 cS])] L') [(3, .slice _ _ _), (4, .pointer _), (5, .pointer _), (7, .int _ _), (9, .int _ _), (11, .int _ _)] ⟨rfl, rfl, rfl, rfl, rfl, rfl, trivial⟩ (fun _ => [(13, .int .i64 50)]) ?_ ?_ | refine J.cutK (α := Unit) (fun _ h' L' => List.Sublist [(b5, row 24 [.int .i64 2, .int .i64 2, .slice (some ⟨b40, 0, none⟩) 2 2]), (b4, row 24 [.int .i64 2, .int .i64 2, .slice pS 2 cS])] L') [(3, _), (4, _), (5, _), (7, _), (9, _), (11, _)] ⟨rfl, rfl, rfl, rfl, rfl, rfl, trivial⟩ (fun _ => [(13, .int .i64 50)]) ?_ ?_
        ·
          refine J.region ?_
          refine o_q (q_lda (vs := [_, _, _]) rfl inferInstance ⟨rfl, rfl, rfl, trivial⟩) ?_
          first | refine o_q (q_mvv (v := .slice _ _ _) rfl) ?_ | refine o_q (q_mv) ?_
          refine o_call (insert_err2 (t := tm (3, 1)) ra.mono ⟨by decide, by decide⟩ (by decide) (by decide) rfl (by decide)) (fun v64 hv64 sv64 ev64 => ?_)
          subst ev64
          refine o_q (q_mv) ?_
          refine o_q (q_ex rfl rfl) ?_
          refine o_q (q_ex rfl rfl) ?_
          refine o_al (fun b12 => ?_)
          refine o_stw (vs := [_, _, _]) rfl rfl rfl inferInstance rfl rfl ?_
          first | refine o_q (q_asv (v := .int _ _) rfl) ?_ | refine o_q (q_as) ?_
          refine JL.nil ?_
          exact ⟨(), rfl, ⟨rfl, rfl, rfl, rfl, rfl, rfl, trivial⟩, ⟨rfl, trivial⟩, (by repeat' first | exact List.Sublist.refl _ | apply List.Sublist.cons_cons | exact List.nil_sublist _ | apply List.Sublist.cons), inferInstance⟩
        ·
          rintro _ σ9 hc9 L9 sc9 hsub9
          refine J.sub hsub9 ?_
          -- cut: kept [3, 4, 5, 7, 9, 11, 13], said [15]
          first | refine J.cutK (α := Unit) (fun _ h' L' => List.Sublist [(b5, row 24 [.int .i64 2, .int .i64 2, .slice (some ⟨b40, 0, none⟩) 2 2]), (b4, row 24 [.int .i64 2, .int .i64 2, .slice pS 2 cS])] L') [(3, .slice _ _ _), (4, .pointer _), (5, .pointer _), (7, .int _ _), (9, .int _ _), (11, .int _ _), (13, .int _ _)] ⟨rfl, rfl, rfl, rfl, rfl, rfl, rfl, trivial⟩ (fun _ => [(15, .int .i64 1)]) ?_ ?_ | refine J.cutK (α := Unit) (fun _ h' L' => List.Sublist [(b5, row 24 [.int .i64 2, .int .i64 2, .slice (some ⟨b40, 0, none⟩) 2 2]), (b4, row 24 [.int .i64 2, .int .i64 2, .slice pS 2 cS])] L') [(3, _), (4, _), (5, _), (7, _), (9, _), (11, _), (13, _)] ⟨rfl, rfl, rfl, rfl, rfl, rfl, rfl, trivial⟩ (fun _ => [(15, .int .i64 1)]) ?_ ?_
          ·
            refine J.region ?_
            refine o_q (q_lda (vs := [_, _, _]) rfl inferInstance ⟨rfl, rfl, rfl, trivial⟩) ?_
            refine o_call (remove_err (.inr ⟨by decide, by decide⟩)) (fun v69 hv69 sv69 ev69 => ?_)
            subst ev69
            refine o_q (q_mv) ?_
            refine o_q (q_ex rfl rfl) ?_
            refine o_q (q_ex rfl rfl) ?_
            refine o_al (fun b14 => ?_)
            refine o_stw (vs := [_, _, _]) rfl rfl rfl inferInstance rfl rfl ?_
            first | refine o_q (q_asv (v := .int _ _) rfl) ?_ | refine o_q (q_as) ?_
            refine JL.nil ?_
            exact ⟨(), rfl, ⟨rfl, rfl, rfl, rfl, rfl, rfl, rfl, trivial⟩, ⟨rfl, trivial⟩, (by repeat' first | exact List.Sublist.refl _ | apply List.Sublist.cons_cons | exact List.nil_sublist _ | apply List.Sublist.cons), inferInstance⟩
          ·
            rintro _ σ10 hc10 L10 sc10 hsub10
            refine J.sub hsub10 ?_
            refine J.seq ?_
            refine J.drawA [] ?_
            refine JD.load 3 (by kernel_rfl) rfl trivial (q_lda (vs := [_, _, _]) rfl inferInstance ⟨rfl, rfl, rfl, trivial⟩) ?_
            refine JD.one 0 (by kernel_rfl) ?_
            refine JX.eff rfl rfl trivial ?_
            refine o_call (of_fn (by decide)) (fun v73 h73 s73 r73 => ?_)
            obtain ⟨p73, n73, c73, rfl, q73⟩ := r73.outR
            refine JL.nil ⟨rfl, inferInstance, inferInstance, ?_⟩
            refine JD.one 1 (by kernel_rfl) ?_
            refine JX.eff rfl rfl trivial ?_
            refine o_call (of_fn (by decide)) (fun v74 h74 s74 r74 => ?_)
            obtain ⟨p74, n74, c74, rfl, q74⟩ := r74.outR
            refine JL.nil ⟨rfl, inferInstance, inferInstance, ?_⟩
            refine JD.one 2 (by kernel_rfl) ?_
            refine JX.eff rfl rfl trivial ?_
            refine o_bs [.bool _, .slice _ _ _, .bool _, .slice _ _ _] (by decide) rfl (fun b75 => ?_)
            refine JL.fz b75 (fun hh75 ss75 hb75 => ?_)
            have k73 := Mo.mono' (R := IntR) (h' := hh75) q73
            have k74 := Mo.mono' (R := IntR) (h' := hh75) q74
            have ve := Sls.lit 2 hb75 (Cells.two k73 k74 rfl rfl rfl) rfl
            refine JL.nil ⟨rfl, inferInstance, inferInstance, ?_⟩
            refine JD.one 4 (by kernel_rfl) ?_
            refine JX.eff rfl rfl trivial ?_
            refine o_call (times_fn (M := [[(1, 2)], []]) ve.mono ⟨_, _, rfl, hS.mono⟩ rfl rfl (by decide) (by decide) (by decide) (by decide) (by decide) (by decide)) (fun v77 h77 s77 r77 => ?_)
            obtain ⟨pt, nt, ct, rfl, r77⟩ := r77
            rw [eg_times] at r77
            refine JL.nil ⟨rfl, inferInstance, inferInstance, ?_⟩
            refine JD.calc 5 (by kernel_rfl) rfl trivial ss_sub (q_mv) ?_
            refine JD.calc 6 (by kernel_rfl) rfl trivial ss_sub (q_ex rfl rfl) ?_
            refine JD.calc 7 (by kernel_rfl) rfl trivial ss_sub (q_ex rfl rfl) ?_
            first | refine JD.calc 8 (by kernel_rfl) rfl trivial ss_sub (q_asv (v := .slice _ _ _) rfl) ?_ | refine JD.calc 8 (by kernel_rfl) rfl trivial ss_sub (q_as) ?_
            first | refine JD.calc 9 (by kernel_rfl) rfl trivial ss_sub (q_asv (v := .int _ _) rfl) ?_ | refine JD.calc 9 (by kernel_rfl) rfl trivial ss_sub (q_as) ?_
            refine JD.done (by kernel_rfl) ?_ _
            refine J.seq ?_
            refine J.region ?_
            first | refine o_q (q_mvv (v := .slice _ _ _) rfl) ?_ | refine o_q (q_mv) ?_
            refine o_call (term_fn (by decide)) (fun v81 h81 s81 r81 => ?_)
            obtain ⟨p81, n81, c81, rfl, q81⟩ := r81.out
            refine o_call (term_fn (by decide)) (fun v82 h82 s82 r82 => ?_)
            obtain ⟨p82, n82, c82, rfl, q82⟩ := r82.out
            refine o_bs [.int _ _, .bool _, .slice _ _ _, .int _ _, .bool _, .slice _ _ _] (by decide) rfl (fun b83 => ?_)
            refine JL.fz b83 (fun hh83 ss83 hb83 => ?_)
            have k81 := Mo.mono' (R := TermR) (h' := hh83) q81
            have k82 := Mo.mono' (R := TermR) (h' := hh83) q82
            have rf := Sls.lit 2 hb83 (Cells.two k81 k82 rfl rfl rfl) rfl
            replace rf : RowAt hh83 _ (cr [(1, -10), (3, 1)]) := rf
            refine o_call (Fn.mono (R' := fun v _ => v = .bool true) (samerow_fn r27.mono rf.mono (by decide) (by decide) (fits (by decide)) (fits (by decide))) (fun _ _ _ e => e.trans (congrArg Value.bool (by decide)))) (fun v84 h84 s84 e84 => ?_)
            subst e84
            first | refine o_q (q_mvv (v := .bool _) rfl) ?_ | refine o_q (q_mv) ?_
            refine JL.guardT rfl rfl rfl ?_
            refine o_q (q_lda (vs := [_, _, _]) rfl inferInstance ⟨rfl, rfl, rfl, trivial⟩) ?_
            refine JL.guardT rfl rfl rfl ?_
            refine o_q (q_lda (vs := [_, _, _]) rfl inferInstance ⟨rfl, rfl, rfl, trivial⟩) ?_
            refine JL.guardT rfl rfl rfl ?_
            refine o_call (Fn.mono (R' := fun v _ => v = .bool true) (equals_fn (l := [[(1, 2)], []]) (m := [[(1, 2)], []]) ⟨_, _, rfl, hS.mono⟩ ⟨_, _, rfl, wa.mono⟩ (by decide) (by decide) (by decide) (by decide) (fitss (by decide)) (fitss (by decide))) (fun _ _ _ e => e.trans (congrArg Value.bool (by decide)))) (fun v88 h88 s88 e88 => ?_)
            subst e88
            first | refine o_q (q_pickTv (v := .bool _) rfl rfl rfl) ?_ | refine o_q (q_pickT rfl rfl) ?_
            first | refine o_q (q_mvv (v := .bool _) rfl) ?_ | refine o_q (q_mv) ?_
            refine JL.guardT rfl rfl rfl ?_
            first | refine o_q (q_mvv (v := .int _ _) rfl) ?_ | refine o_q (q_mv) ?_
            refine JL.guardT rfl rfl rfl ?_
            refine o_q (q_eql rfl rfl) ?_
            first | refine o_q (q_pickTv (v := .bool _) rfl rfl rfl) ?_ | refine o_q (q_pickT rfl rfl) ?_
            first | refine o_q (q_mvv (v := .bool _) rfl) ?_ | refine o_q (q_mv) ?_
            refine JL.guardT rfl rfl (decide_eq_true rfl) ?_
            first | refine o_q (q_mvv (v := .int _ _) rfl) ?_ | refine o_q (q_mv) ?_
            refine JL.guardT rfl rfl (decide_eq_true rfl) ?_
            refine o_q (q_eql rfl rfl) ?_
            first | refine o_q (q_pickTv (v := .bool _) rfl (decide_eq_true rfl) rfl) ?_ | refine o_q (q_pickT rfl (decide_eq_true rfl)) ?_
            first | refine o_q (q_mvv (v := .bool _) rfl) ?_ | refine o_q (q_mv) ?_
            refine JL.guardT rfl rfl (decide_eq_true rfl) ?_
            first | refine o_q (q_mvv (v := .int _ _) rfl) ?_ | refine o_q (q_mv) ?_
            refine JL.guardT rfl rfl (decide_eq_true rfl) ?_
            refine o_q (q_eql rfl rfl) ?_
            first | refine o_q (q_pickTv (v := .bool _) rfl (decide_eq_true rfl) rfl) ?_ | refine o_q (q_pickT rfl (decide_eq_true rfl)) ?_
            first | refine o_q (q_mvv (v := .bool _) rfl) ?_ | refine o_q (q_mv) ?_
            refine JL.guardT rfl rfl (decide_eq_true rfl) ?_
            first | refine o_q (q_mvv (v := .int _ _) rfl) ?_ | refine o_q (q_mv) ?_
            refine JL.guardT rfl rfl (decide_eq_true rfl) ?_
            refine o_q (q_eql rfl rfl) ?_
            first | refine o_q (q_pickTv (v := .bool _) rfl (decide_eq_true rfl) rfl) ?_ | refine o_q (q_pickT rfl (decide_eq_true rfl)) ?_
            first | refine o_q (q_mvv (v := .bool _) rfl) ?_ | refine o_q (q_mv) ?_
            refine JL.guardT rfl rfl (decide_eq_true rfl) ?_
            first | refine o_q (q_mvv (v := .int _ _) rfl) ?_ | refine o_q (q_mv) ?_
            refine JL.guardT rfl rfl (decide_eq_true rfl) ?_
            refine o_q (q_eql rfl rfl) ?_
            first | refine o_q (q_pickTv (v := .bool _) rfl (decide_eq_true rfl) rfl) ?_ | refine o_q (q_pickT rfl (decide_eq_true rfl)) ?_
            first | refine o_q (q_mvv (v := .bool _) rfl) ?_ | refine o_q (q_mv) ?_
            refine JL.guardT rfl rfl (decide_eq_true rfl) ?_
            first | refine o_q (q_mvv (v := .int _ _) rfl) ?_ | refine o_q (q_mv) ?_
            refine JL.guardT rfl rfl (decide_eq_true rfl) ?_
            refine o_q (q_eql rfl rfl) ?_
            first | refine o_q (q_pickTv (v := .bool _) rfl (decide_eq_true rfl) rfl) ?_ | refine o_q (q_pickT rfl (decide_eq_true rfl)) ?_
            first | refine o_q (q_mvv (v := .bool _) rfl) ?_ | refine o_q (q_mv) ?_
            refine JL.guardT rfl rfl (decide_eq_true rfl) ?_
            first | refine o_q (q_mvv (v := .slice _ _ _) rfl) ?_ | refine o_q (q_mv) ?_
            refine JL.guardT rfl rfl (decide_eq_true rfl) ?_
            refine o_call (of_fn (by decide)) (fun v116 h116 s116 r116 => ?_)
            obtain ⟨p116, n116, c116, rfl, q116⟩ := r116.outR
            refine JL.guardT rfl rfl (decide_eq_true rfl) ?_
            refine o_call (of_fn (by decide)) (fun v117 h117 s117 r117 => ?_)
            obtain ⟨p117, n117, c117, rfl, q117⟩ := r117.outR
            refine JL.guardT rfl rfl (decide_eq_true rfl) ?_
            refine o_bs [.bool _, .slice _ _ _, .bool _, .slice _ _ _] (by decide) rfl (fun b118 => ?_)
            refine JL.fz b118 (fun hh118 ss118 hb118 => ?_)
            have k116 := Mo.mono' (R := IntR) (h' := hh118) q116
            have k117 := Mo.mono' (R := IntR) (h' := hh118) q117
            have vg := Sls.lit 2 hb118 (Cells.two k116 k117 rfl rfl rfl) rfl
            refine JL.guardT rfl rfl (decide_eq_true rfl) ?_
            refine o_call (Fn.mono (R' := fun v _ => v = .bool true) (samevec_fn (l := [0, 6]) (m := [0, 6]) r77.mono vg.mono (by decide) (by decide) (fitsv (by decide)) (fitsv (by decide))) (fun _ _ _ e => e.trans (congrArg Value.bool (by decide)))) (fun v119 h119 s119 e119 => ?_)
            subst e119
            first | refine o_q (q_pickTv (v := .bool _) rfl (decide_eq_true rfl) rfl) ?_ | refine o_q (q_pickT rfl (decide_eq_true rfl)) ?_
            first | refine o_q (q_mvv (v := .bool _) rfl) ?_ | refine o_q (q_mv) ?_
            refine JL.guardT rfl rfl rfl ?_
            refine o_q (q_lda (vs := [_, _, _]) rfl inferInstance ⟨rfl, rfl, rfl, trivial⟩) ?_
            refine JL.guardT rfl rfl rfl ?_
            refine o_call (nonzero_fn (l := crs [[(1, 2)], []]) ⟨_, _, rfl, hS.mono⟩ (by decide) (lensR (by decide))) (fun v123 hv123 sv123 ev123 => ?_)
            subst ev123
            refine JL.guardT rfl rfl rfl ?_
            refine o_q (q_eql rfl rfl) ?_
            first | refine o_q (q_pickTv (v := .bool _) rfl rfl rfl) ?_ | refine o_q (q_pickT rfl rfl) ?_
            first | refine o_q (q_mvv (v := .bool _) rfl) ?_ | refine o_q (q_mv) ?_
            refine JL.guardT rfl rfl (decide_eq_true rfl) ?_
            refine o_q (q_lda (vs := [_, _, _]) rfl inferInstance ⟨rfl, rfl, rfl, trivial⟩) ?_
            refine JL.guardT rfl rfl (decide_eq_true rfl) ?_
            refine o_call (Fn.mono (R' := fun v _ => v = .bool true) (valids_fn (L := crs [[(1, 2)], []]) ⟨_, _, rfl, hS.mono⟩ (by decide) (lensR (by decide)) (lensT (fitss (by decide)))) (fun _ _ _ e => e.trans (congrArg Value.bool (eg_v1)))) (fun v128 h128 s128 e128 => ?_)
            subst e128
            first | refine o_q (q_pickTv (v := .bool _) rfl (decide_eq_true rfl) rfl) ?_ | refine o_q (q_pickT rfl (decide_eq_true rfl)) ?_
            first | refine o_q (q_mvv (v := .bool _) rfl) ?_ | refine o_q (q_mv) ?_
            refine JL.guardT rfl rfl rfl ?_
            first | refine o_q (q_bd [.int _ _, .int _ _, .slice _ _ _] rfl) ?_ | refine o_q (q_bd [_, _, _] rfl) ?_
            refine JL.guardT rfl rfl rfl ?_
            refine o_call (Fn.mono (R' := fun v _ => v = .bool true) (valids_fn (L := []) ⟨none, 0, rfl, Sls.nil _⟩ (by decide) (by decide) (by decide)) (fun _ _ _ e => e.trans (congrArg Value.bool (eg_v2)))) (fun v132 h132 s132 e132 => ?_)
            subst e132
            first | refine o_q (q_pickTv (v := .bool _) rfl rfl rfl) ?_ | refine o_q (q_pickT rfl rfl) ?_
            first | refine o_q (q_mvv (v := .bool _) rfl) ?_ | refine o_q (q_mv) ?_
            refine JL.guardT rfl rfl rfl ?_
            first | refine o_q (q_bd [.int _ _, .int _ _, .slice _ _ _] rfl) ?_ | refine o_q (q_bd [_, _, _] rfl) ?_
            refine JL.guardT rfl rfl rfl ?_
            refine o_call (Fn.mono (R' := fun v _ => v = .bool false) (valids_fn (L := []) ⟨none, 0, rfl, Sls.nil _⟩ (by decide) (by decide) (by decide)) (fun _ _ _ e => e.trans (congrArg Value.bool (eg_v3)))) (fun v136 h136 s136 e136 => ?_)
            subst e136
            refine JL.guardT rfl rfl rfl ?_
            refine o_q (q_not rfl) ?_
            first | refine o_q (q_pickTv (v := .bool _) rfl rfl rfl) ?_ | refine o_q (q_pickT rfl rfl) ?_
            first | refine o_q (q_mvv (v := .bool _) rfl) ?_ | refine o_q (q_mv) ?_
            refine JL.guardT rfl rfl rfl ?_
            refine o_call (term_fn (by decide)) (fun v140 h140 s140 r140 => ?_)
            obtain ⟨p140, n140, c140, rfl, q140⟩ := r140.out
            refine JL.guardT rfl rfl rfl ?_
            refine o_bs [.int _ _, .bool _, .slice _ _ _] (by decide) rfl (fun b141 => ?_)
            refine JL.fz b141 (fun hh141 ss141 hb141 => ?_)
            have k140 := Mo.mono' (R := TermR) (h' := hh141) q140
            have rh := Sls.lit 1 hb141 (Cells.one k140 rfl) rfl
            refine JL.guardT rfl rfl rfl ?_
            refine o_bs [.slice _ _ _] (by decide) rfl (fun b142 => ?_)
            refine JL.fz b142 (fun hh142 ss142 hb142 => ?_)
            have wh := Sls.lit 1 hb142 (Cells.one (R := One RowAt) ⟨_, _, _, rfl, rh.mono⟩ rfl) rfl
            refine JL.guardT rfl rfl rfl ?_
            first | refine o_q (q_bd [.int _ _, .int _ _, .slice _ _ _] rfl) ?_ | refine o_q (q_bd [_, _, _] rfl) ?_
            refine JL.guardT rfl rfl rfl ?_
            refine o_call (Fn.mono (R' := fun v _ => v = .bool false) (valids_fn (L := crs [[(1, 0)]]) ⟨_, _, rfl, wh.mono⟩ (by decide) (lensR (by decide)) (lensT (fitss (by decide)))) (fun _ _ _ e => e.trans (congrArg Value.bool (eg_v4)))) (fun v144 h144 s144 e144 => ?_)
            subst e144
            refine JL.guardT rfl rfl rfl ?_
            refine o_q (q_not rfl) ?_
            first | refine o_q (q_pickTv (v := .bool _) rfl rfl rfl) ?_ | refine o_q (q_pickT rfl rfl) ?_
            first | refine o_q (q_mvv (v := .bool _) rfl) ?_ | refine o_q (q_mv) ?_
            refine JL.guardT rfl rfl rfl ?_
            refine o_call (term_fn (by decide)) (fun v148 h148 s148 r148 => ?_)
            obtain ⟨p148, n148, c148, rfl, q148⟩ := r148.out
            refine JL.guardT rfl rfl rfl ?_
            refine o_bs [.int _ _, .bool _, .slice _ _ _] (by decide) rfl (fun b149 => ?_)
            refine JL.fz b149 (fun hh149 ss149 hb149 => ?_)
            have k148 := Mo.mono' (R := TermR) (h' := hh149) q148
            have ri := Sls.lit 1 hb149 (Cells.one k148 rfl) rfl
            refine JL.guardT rfl rfl rfl ?_
            refine o_bs [.slice _ _ _] (by decide) rfl (fun b150 => ?_)
            refine JL.fz b150 (fun hh150 ss150 hb150 => ?_)
            have wi := Sls.lit 1 hb150 (Cells.one (R := One RowAt) ⟨_, _, _, rfl, ri.mono⟩ rfl) rfl
            refine JL.guardT rfl rfl rfl ?_
            first | refine o_q (q_bd [.int _ _, .int _ _, .slice _ _ _] rfl) ?_ | refine o_q (q_bd [_, _, _] rfl) ?_
            refine JL.guardT rfl rfl rfl ?_
            refine o_call (Fn.mono (R' := fun v _ => v = .bool false) (valids_fn (L := crs [[(2, 1)]]) ⟨_, _, rfl, wi.mono⟩ (by decide) (lensR (by decide)) (lensT (fitss (by decide)))) (fun _ _ _ e => e.trans (congrArg Value.bool (eg_v5)))) (fun v152 h152 s152 e152 => ?_)
            subst e152
            refine JL.guardT rfl rfl rfl ?_
            refine o_q (q_not rfl) ?_
            first | refine o_q (q_pickTv (v := .bool _) rfl rfl rfl) ?_ | refine o_q (q_pickT rfl rfl) ?_
            first | refine o_q (q_asv (v := .bool _) rfl) ?_ | refine o_q (q_as) ?_
            refine JL.nil ?_
            refine J.ret ?_
            exact ret_ok (fn := Try.f9) rfl (.tmp rfl .nil) rfl
end Go.Z
end
section
set_option linter.unusedSimpArgs false
set_option linter.unusedVariables false
/- The contract of the examples, in the words of their model. -/
set_option linter.unusedVariables false
namespace Go.Z
open Go Go.RowKit Go.Proofs
theorem sanity_fn' {h : Heap} {r : Bool} (hm : M.sanity6 = some r) : Fn Try.prog 9 #[] h fun v h' => v = .bool r := by
  obtain rfl := Option.some.inj hm; exact sanity_fn
end Go.Z
end
