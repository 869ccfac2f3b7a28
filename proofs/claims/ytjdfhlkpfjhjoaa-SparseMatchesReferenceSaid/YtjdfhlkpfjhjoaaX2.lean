/- Texts of ours, joined: Law6F, B1, B2, B3, B4, B5, B6, B7. -/
import Derived.Test.YtjdfhlkpfjhjoaaX1
import Derived.WalkKit
import Derived.RangeFuncLeaves
import Derived.OrdersIn
import Derived.LoopNIn
import Derived.Deep.Upon
import Derived.Laws.CopyOwn
section
set_option linter.unusedSimpArgs false
set_option linter.unusedVariables false
/- The law SparseMatchesReference, of the models. No program is named here. -/
set_option linter.unusedSimpArgs false
set_option linter.unusedVariables false
namespace Go.Z
theorem rtimes_ok {r c A B : Nat} {f : Nat → Int} {a : Nat → Nat → Int} (hf : ∀ i, (f i).natAbs ≤ A) (ha : BdF B a) (hr : r ≤ 20) (hc : c ≤ 20) (hA : A ≤ 1000000) (hB : B ≤ 1000000) (hb : r * (A * B) ≤ 1000000) :
    M.torsionref06_Times (vecF r f) (spF r c a) = some (vecF c fun k => smF r fun i => f i * a i k, 0) := by
  unfold M.torsionref06_Times
  rw [if_pos (show ((vecF r f).length : Int) = (spF r c a).Rows by rw [vecF_len]; rfl)]
  obtain ⟨s', h1, h4⟩ := rngL_run (b := M.torsionref06_Times_b1 (spF r c a)) (e := M.torsionref06_Times_k1 (spF r c a)) (l := vecF r f) (s := ([] : List TTerm))
    (fun n s => s = rwF c fun k => smF n fun i => f i * a i k) (by rw [vecF_len]; omega) (rwF_zero c).symm (by
      rintro n x s hx rfl
      have hn : n < r := by have := lt_of_get hx; rw [vecF_len] at this; exact this
      rw [vecF_get f hn] at hx
      cases hx
      have hmul : (n + 1) * (A * B) ≤ r * (A * B) := Nat.mul_le_mul_right _ hn
      rw [Nat.add_mul, Nat.one_mul] at hmul
      refine ⟨_, ?_, rfl⟩
      unfold M.torsionref06_Times_b1
      dsimp only
      rw [nth_at (spF_row a hn), merge_F (P := n * (A * B)) (Q := B) (K := A) (fun k => natAbs_sm fun i => by rw [Int.natAbs_mul]; exact Nat.mul_le_mul (hf i) (ha i k)) (ha n) (hf n) (by omega) (by omega) hB hA, bnd_pure]
      rfl)
  rw [h4, h1, vecF_len]
  unfold M.torsionref06_Times_k1
  dsimp only
  rw [show (spF r c a).Cols = (c : Int) from rfl, full_ok (by omega), bnd_pure]
theorem rmul_ok {r m c A B : Nat} {a b : Nat → Nat → Int} (hA : BdF A a) (hB : BdF B b) (hr : r ≤ 20) (hm : m ≤ 20) (hc : c ≤ 20) (hA2 : A ≤ 1000000) (hB2 : B ≤ 1000000) (hb : m * (A * B) ≤ 1000000) :
    M.torsionref06_Mul (spF r m a) (spF m c b) = some (spF r c (mulF m a b), 0) := by
  unfold M.torsionref06_Mul
  rw [if_pos (show (spF r m a).Cols = (spF m c b).Rows from rfl)]
  obtain ⟨s', h1, h4⟩ := rngN_run (b := M.torsionref06_Mul_b1 (spF r m a) (spF m c b)) (e := M.torsionref06_Mul_k1 (spF r m a) (spF m c b)) (k := r) (s := ([] : List (List TTerm)))
    (fun n s => s = (List.range n).map (fun i => rwF c (mulF m a b i))) (by omega) rfl (by
      rintro n s hn rfl
      refine ⟨_, ?_, rfl⟩
      show M.torsionref06_Mul_b1 (spF r m a) (spF m c b) (n : Int) _ = _
      unfold M.torsionref06_Mul_b1
      dsimp only
      have hbd : ∀ k, (smF m fun j => a n j * b j k).natAbs ≤ 1000000 := fun k => Nat.le_trans (natAbs_sm fun j => by rw [Int.natAbs_mul]; exact Nat.mul_le_mul (hA n j) (hB j k)) hb
      rw [nth_at (spF_row a hn), show (spF r m a).Cols = (m : Int) from rfl, full_ok (by omega), bnd_pure, rtimes_ok (hA n) hB hm hc hA2 hB2 hb, bnd_pure]
      dsimp only
      rw [row_vec hbd (by omega), bnd_pure, app_at (by simp; omega), bnd_pure, List.range_succ, List.map_append]
      rfl)
  show rngN _ _ (r : Int) 0 _ = _
  rw [h4, h1]
  rfl
theorem rto_ok {r c : Nat} {a : Nat → Nat → Int} (hr : r ≤ 100) (hc : c ≤ 100) : M.torsionref06_To (spF r c a) = some (mtF r c a) := by
  unfold M.torsionref06_To
  have hl := spF_len r c a
  obtain ⟨s', h1, h4⟩ := rngL_run (b := M.torsionref06_To_b1 (spF r c a)) (e := M.torsionref06_To_k1 (spF r c a)) (l := (spF r c a).L) (s := ([] : List (List Int)))
    (fun n s => s = (List.range n).map (fun i => vecF c (a i))) (by omega) rfl (by
      rintro n x s hx rfl
      have hn : n < r := by have := lt_of_get hx; omega
      rw [spF_row a hn] at hx
      cases hx
      refine ⟨_, ?_, rfl⟩
      unfold M.torsionref06_To_b1
      dsimp only
      rw [show (spF r c a).Cols = (c : Int) from rfl, full_ok hc, bnd_pure, app_at (by simp; omega), bnd_pure, List.range_succ, List.map_append]
      rfl)
  rw [h4, h1, hl]
  rfl
theorem rtranspose_ok {r c : Nat} {a : Nat → Nat → Int} (ha : BdF 1000000 a) (hr : r ≤ 100) (hc : c ≤ 100) : M.torsionref06_Transpose (spF r c a) = some (spF c r fun k i => a i k) := by
  unfold M.torsionref06_Transpose
  rw [rto_ok hr hc, bnd_pure]
  obtain ⟨s', h1, h4⟩ := rngN_run (b := M.torsionref06_Transpose_b2 (spF r c a) (mtF r c a)) (e := M.torsionref06_Transpose_k2 (spF r c a)) (k := c) (s := ([] : List (List TTerm)))
    (fun n s => s = (List.range n).map (fun k => rwF r fun i => a i k)) (by omega) rfl (by
      rintro n s hn rfl
      refine ⟨_, ?_, rfl⟩
      show M.torsionref06_Transpose_b2 (spF r c a) (mtF r c a) (n : Int) _ = _
      unfold M.torsionref06_Transpose_b2
      dsimp only
      obtain ⟨s', h1, h4⟩ := rngN_run (b := M.torsionref06_Transpose_b1 (mtF r c a) (n : Int)) (e := M.torsionref06_Transpose_k1 ((List.range n).map (fun k => rwF r fun i => a i k))) (k := r) (s := ([] : List Int))
        (fun j s => s = vecF j fun i => a i n) (by omega) rfl (by
          rintro j s hj rfl
          refine ⟨_, ?_, rfl⟩
          show M.torsionref06_Transpose_b1 (mtF r c a) (n : Int) (j : Int) _ = _
          unfold M.torsionref06_Transpose_b1
          dsimp only
          rw [nth_at (a := vecF c (a j)) (by simp [mtF, hj]), nth_at (vecF_get (a j) hn), app_at (by rw [vecF_len]; simp; omega), bnd_pure, vecF_succ])
      rw [show (spF r c a).Rows = (r : Int) from rfl, h4, h1]
      unfold M.torsionref06_Transpose_k1
      dsimp only
      rw [row_vec (fun i => ha i n) hr, bnd_pure, app_at (by simp; omega), bnd_pure, List.range_succ, List.map_append]
      rfl)
  show rngN _ _ (c : Int) 0 _ = _
  rw [h4, h1]
  rfl
theorem vec_ok (l : List Int) {n : Nat} (hn : n ≤ 100) : ∃ f : Nat → Int, (∀ i, (f i).natAbs ≤ 9) ∧ M.torsionref06_Vec l n = some (vecF n f) := by
  unfold M.torsionref06_Vec
  obtain ⟨⟨a, w⟩, ⟨h0, h1, h2⟩, h4⟩ := rngN_run (b := M.torsionref06_Vec_b2) (e := M.torsionref06_Vec_k2) (k := n) (s := (l, []))
    (fun j s => s.1 = l ∧ s.2.length = j ∧ ∀ z ∈ s.2, z.natAbs ≤ 9) (by omega) ⟨rfl, rfl, by simp⟩ (by
      rintro j ⟨u, w⟩ hj ⟨h0, h1, h2⟩
      simp only at h0 h1 h2
      rw [← h0]
      have jn : ∀ y : Int, y.natAbs ≤ 9 → ∃ s', M.torsionref06_Vec_j1 w y u = some (.inl s') ∧ s'.1 = u ∧ s'.2.length = j + 1 ∧ ∀ z ∈ s'.2, z.natAbs ≤ 9 := fun y hy => by
        unfold M.torsionref06_Vec_j1
        rw [app_at (by simp; omega), bnd_pure]
        refine ⟨_, rfl, rfl, by simp [h1], fun z hz => ?_⟩
        rcases List.mem_append.1 hz with hz | hz
        · exact h2 z hz
        · rw [List.mem_singleton.1 hz]; exact hy
      show ∃ s', M.torsionref06_Vec_b2 (j : Int) (u, w) = some (.inl s') ∧ _
      unfold M.torsionref06_Vec_b2
      dsimp only
      rw [show M.torsionref06_zero = some 0 from rfl, bnd_pure]
      split
      · rename_i hlt
        have hju : j < u.length := by omega
        have := tmod_ten u[j]
        rw [nth_at (a := u[j]) (by simp [hju]), chk64_pos (by omega), show M.iof (Int.tmod u[j] 10) = some (Int.tmod u[j] 10) by unfold M.iof; rw [if_pos (by omega)]]
        exact jn _ this
      · exact jn 0 (by decide))
  simp only at h0 h1 h2
  refine ⟨fun i => w.getD i 0, fun i => ?_, ?_⟩
  · by_cases hi : i < w.length
    · have : w.getD i 0 = w[i] := by simp [hi]
      show (w.getD i 0).natAbs ≤ 9
      rw [this]; exact h2 _ (by simp)
    · have : w.getD i 0 = 0 := by simp [hi]
      show (w.getD i 0).natAbs ≤ 9
      rw [this]; decide
  · rw [h4, ← vecF_of h1]
    rfl
theorem sfrom_ok {r c : Nat} {a : Nat → Nat → Int} (ha : BdF 9 a) (hr : r ≤ 100) (hc : c ≤ 100) : M.sparse_From (mtF r c a) = some (spF r c a) := by
  have := from_ok (rows := r) (cols := c) (n := c) (A := (List.range r).map fun i => vecF c (a i)) hc (fun v hv => by
    obtain ⟨i, _, rfl⟩ := List.mem_map.1 hv
    refine ⟨vecF_len _ _, fun z hz => ?_⟩
    obtain ⟨k, _, rfl⟩ := List.mem_map.1 hz
    exact ha i k) (by simp; omega)
  show M.sparse_From ⟨r, c, _⟩ = _
  rw [this, List.map_map]
  rfl
theorem ssame_ok {x y : TTerm} (hx : Ft x.V) (hy : Ft y.V) : M.sparse_same x y = some (decide (x = y)) := by
  unfold M.sparse_same
  by_cases h : x.Col = y.Col
  · rw [if_pos h]
    simp only [M.icmp, if_pos (And.intro hx hy), bnd_pure]
    congr 1
    refine decide_eq_decide.2 ?_
    rw [term_eq]
    by_cases h1 : x.V < y.V
    · rw [if_pos h1]; constructor
      · intro e; cases e
      · intro e; omega
    · rw [if_neg h1]
      by_cases h2 : y.V < x.V
      · rw [if_pos h2]; constructor
        · intro e; cases e
        · intro e; omega
      · rw [if_neg h2]; exact ⟨fun _ => ⟨h, by omega⟩, fun _ => rfl⟩
  · rw [if_neg h]
    simp [show ¬ x = y from fun e => h (by rw [e])]
theorem seqrow_ok {l m : List TTerm} (hl : FtR l) (hm : FtR m) (hn : l.length ≤ 1000) : M.sparse_Equal_1 l m = some (decide (l = m)) := by
  unfold M.sparse_Equal_1 M.slices_EqualFunc_LTerm_LTerm_Term_Term
  by_cases h : l.length = m.length
  · rw [if_pos (by omega), rngL, chk_pos (by omega)]
    have := eq_go (b := M.slices_EqualFunc_LTerm_LTerm_Term_Term_b1 m M.sparse_same) (e := M.slices_EqualFunc_LTerm_LTerm_Term_Term_k1) (m := m) rfl l [] m rfl h (fun n x y hx hy => by
      unfold M.slices_EqualFunc_LTerm_LTerm_Term_Term_b1
      rw [nth_at hy, ssame_ok (hl x hx) (hm y (List.mem_of_getElem? hy)), bnd_pure]
      by_cases e : x = y
      · rw [if_pos (by simpa using e), if_pos e]
      · rw [if_neg (by simpa using e), if_neg e]; rfl)
    rw [List.length_nil] at this
    rw [this]
    rfl
  · rw [if_neg (by omega)]
    simp [show ¬ l = m from fun e => h (by rw [e])]
theorem sequal_ok {s t : TSparse} (hs : ∀ l ∈ s.L, FtR l ∧ l.length ≤ 1000) (ht : ∀ l ∈ t.L, FtR l) (hn : s.L.length ≤ 1000) : M.sparse_Equal s t = some (decide (s = t)) := by
  unfold M.sparse_Equal
  by_cases h1 : s.Rows = t.Rows
  · rw [if_pos h1]
    by_cases h2 : s.Cols = t.Cols
    · rw [if_pos h2]
      unfold M.slices_EqualFunc_LLTerm_LLTerm_LTerm_LTerm
      by_cases h3 : s.L.length = t.L.length
      · rw [if_pos (by omega), rngL, chk_pos (by omega)]
        have := eq_go (b := M.slices_EqualFunc_LLTerm_LLTerm_LTerm_LTerm_b1 t.L M.sparse_Equal_1) (e := M.slices_EqualFunc_LLTerm_LLTerm_LTerm_LTerm_k1) (m := t.L) rfl s.L [] t.L rfl h3 (fun n x y hx hy => by
          unfold M.slices_EqualFunc_LLTerm_LLTerm_LTerm_LTerm_b1
          rw [nth_at hy, seqrow_ok (hs x hx).1 (ht y (List.mem_of_getElem? hy)) (hs x hx).2, bnd_pure]
          by_cases e : x = y
          · rw [if_pos (by simpa using e), if_pos e]
          · rw [if_neg (by simpa using e), if_neg e]; rfl)
        rw [List.length_nil] at this
        rw [this, bnd_pure]
        congr 1
        exact decide_eq_decide.2 ⟨fun e => (sparse_eq s t).2 ⟨h1, h2, e⟩, fun e => ((sparse_eq s t).1 e).2.2⟩
      · rw [if_neg (by omega)]
        simp [show ¬ s = t from fun e => h3 (by rw [e])]
    · rw [if_neg h2]
      simp [show ¬ s = t from fun e => h2 (by rw [e])]
  · rw [if_neg h1]
    simp [show ¬ s = t from fun e => h1 (by rw [e])]
theorem svalid_ok {r c : Nat} {a : Nat → Nat → Int} (ha : BdF 1000000 a) (hr : r ≤ 100) (hc : c ≤ 100) : M.sparse_Valid (spF r c a) = some true := by
  unfold M.sparse_Valid
  have hl := spF_len r c a
  rw [if_pos (show (spF r c a).Rows = ((spF r c a).L.length : Int) by rw [hl]; rfl)]
  rw [show decide ((spF r c a).Cols < 0) = false from decide_eq_false (show ¬ ((c : Int) < 0) by omega)]
  unfold M.sparse_Valid_j3
  rw [if_neg Bool.false_ne_true]
  obtain ⟨_, _, h4⟩ := rngL_run (b := M.sparse_Valid_b2 (spF r c a)) (e := M.sparse_Valid_k2) (l := (spF r c a).L) (s := ()) (fun _ _ => True) (by omega) trivial (by
    rintro i t ⟨⟩ ht -
    have hi : i < r := by have := lt_of_get ht; omega
    rw [spF_row a hi] at ht
    cases ht
    refine ⟨(), ?_, trivial⟩
    unfold M.sparse_Valid_b2
    have hlen := rwF_len c (a i)
    obtain ⟨s', _, h5⟩ := rngL_run (b := M.sparse_Valid_b1 (spF r c a)) (e := M.sparse_Valid_k1) (l := rwF c (a i)) (s := (-1 : Int)) (fun n s => ∀ t, (rwF c (a i))[n]? = some t → s < t.Col) (by omega)
      (fun t ht => by have := (rwF_mem t (List.mem_of_getElem? ht)).1; omega) (by
        rintro n x s hx hs
        obtain ⟨m1, m2, m3, m4⟩ := rwF_mem x (List.mem_of_getElem? hx)
        have hft : Ft x.V := ft_small (by rw [m4]; exact ha _ _)
        have hsx := hs x hx
        refine ⟨x.Col, ?_, fun t ht => ?_⟩
        · unfold M.sparse_Valid_b1
          dsimp only
          rw [if_neg (show ¬ x.Col ≤ s by omega), if_neg (show ¬ (spF r c a).Cols ≤ x.Col from fun h => by have : (c : Int) ≤ x.Col := h; omega)]
          simp only [M.ivalid, M.isign, if_pos hft, bnd_pure, if_true]
          rw [if_neg (by simpa using m3)]
        · have h1 := lt_of_get hx
          have h2 := lt_of_get ht
          have := List.pairwise_iff_getElem.1 (rowF_sorted (vecF c (a i)) 0) n (n + 1) h1 h2 (by omega)
          have e1 : (rwF c (a i))[n] = x := (List.getElem?_eq_some_iff.1 hx).2
          have e2 : (rwF c (a i))[n + 1] = t := (List.getElem?_eq_some_iff.1 ht).2
          have h3 : (rwF c (a i))[n].Col < (rwF c (a i))[n + 1].Col := this
          rw [e1, e2] at h3
          exact h3)
    rw [h5]
    rfl)
  rw [h4]
  rfl
theorem nonzero_ok {r c : Nat} {a : Nat → Nat → Int} (hr : r ≤ 100) (hc : c ≤ 100) : ∃ n, M.sparse_Nonzero (spF r c a) = some n ∧ M.torsionref06_Nonzero (spF r c a) = some n := by
  have hl := spF_len r c a
  obtain ⟨s', _, h4⟩ := rngL_run (b := M.sparse_Nonzero_b1) (e := M.sparse_Nonzero_k1) (l := (spF r c a).L) (s := (0 : Int)) (fun n s => 0 ≤ s ∧ s ≤ n * 100) (by omega) ⟨by omega, by omega⟩ (by
    rintro n x s hx ⟨h1, h2⟩
    have hn : n < r := by have := lt_of_get hx; omega
    rw [spF_row a hn] at hx
    cases hx
    have hlen := rwF_len c (a n)
    unfold M.sparse_Nonzero_b1
    dsimp only
    rw [chk64_pos (by omega)]
    exact ⟨_, rfl, by omega, by omega⟩)
  exact ⟨s', h4, h4⟩
theorem samevec_F {n : Nat} {f : Nat → Int} (hf : ∀ i, (f i).natAbs ≤ 1000000) (hn : n ≤ 100) : M.torsionref06_SameVec (vecF n f) (vecF n f) = some true := by
  have hv := vecF_len n f
  unfold M.torsionref06_SameVec
  rw [if_pos rfl]
  obtain ⟨_, _, h4⟩ := rngL_run (b := M.torsionref06_SameVec_b1 (vecF n f)) (e := M.torsionref06_SameVec_k1) (l := vecF n f) (s := ()) (fun _ _ => True) (by omega) trivial (by
    rintro i t ⟨⟩ ht -
    have hft : Ft t := by
      obtain ⟨j, _, rfl⟩ := List.mem_map.1 (List.mem_of_getElem? ht)
      exact ft_small (hf j)
    refine ⟨(), ?_, trivial⟩
    unfold M.torsionref06_SameVec_b1
    rw [nth_at ht]
    simp [M.isame, hft])
  rw [h4]
  rfl
theorem matches_ok (x y : R06Raw) (l : List Int) (x1 : 0 ≤ x.Rows ∧ x.Rows ≤ 255) (x2 : 0 ≤ x.Cols ∧ x.Cols ≤ 255) (y2 : 0 ≤ y.Cols ∧ y.Cols ≤ 255) : M.torsionlaw06_SparseMatchesReference x y l = some true := by
  obtain ⟨r, m, a, hA, hr, hm, ba⟩ := made_F x x1 x2 (n := 5) (by omega)
  obtain ⟨n, hn, hn2⟩ := tmod_rng y2.1 (show (0 : Int) < 6 by omega)
  obtain ⟨b, bb, hB⟩ := sized_F y (r := m) (c := n) (by omega) (by omega)
  obtain ⟨f, bf, hV⟩ := vec_ok l (n := r) (by omega)
  have hn3 : n ≤ 5 := by omega
  have ba' := ba.le (show 9 ≤ 1000000 by omega)
  have bb' := bb.le (show 9 ≤ 1000000 by omega)
  have n1 : m * (n * (9 * 9)) ≤ 5 * (5 * (9 * 9)) := Nat.mul_le_mul hm (Nat.mul_le_mul_right _ hn3)
  have n2 : r * (m * (9 * 9)) ≤ 5 * (5 * (9 * 9)) := Nat.mul_le_mul hr (Nat.mul_le_mul_right _ hm)
  have bab : BdF 1000000 (mulF m a b) := (ba.mul (m := m) bb).le (by omega)
  have bt : ∀ k, (smF r fun i => f i * a i k).natAbs ≤ 1000000 := fun k => Nat.le_trans (natAbs_sm (B := 9 * 9) fun i => by rw [Int.natAbs_mul]; exact Nat.mul_le_mul (bf i) (ba i k)) (by omega)
  obtain ⟨nz, z1, z2⟩ := nonzero_ok (r := r) (c := m) (a := a) (by omega) (by omega)
  have e1 : M.torsionref06_Equal (spF r n (mulF m a b)) (spF r n (mulF m a b)) = some true := by rw [equal_spF bab bab (by omega) (by omega) (by omega)]; simp
  have e2 : M.torsionref06_Equal (spF m r fun k i => a i k) (spF m r fun k i => a i k) = some true := by rw [equal_spF (fun i k => ba' k i) (fun i k => ba' k i) (by omega) (by omega) (by omega)]; simp
  have e3 : M.torsionref06_Equal (spF r m a) (spF r m a) = some true := by rw [equal_spF ba' ba' (by omega) (by omega) (by omega)]; simp
  have e4 : M.torsionref06_Equal (spF r m a) (spF m n b) = some (decide (spF r m a = spF m n b)) := equal_spF ba' bb' (by omega) (by omega) (by omega)
  have e5 : M.sparse_Equal (spF r m a) (spF m n b) = some (decide (spF r m a = spF m n b)) := sequal_ok (spF_ft ba' (by omega)) (fun l hl => (spF_ft bb' (by omega) l hl).1) (by rw [spF_len]; omega)
  have e6 : M.sparse_Equal (spF r m a) (spF r m a) = some true := by rw [sequal_ok (spF_ft ba' (by omega)) (fun l hl => (spF_ft ba' (by omega) l hl).1) (by rw [spF_len]; omega)]; simp
  unfold M.torsionlaw06_SparseMatchesReference
  rw [show M.sanity6 = some true from rfl, bnd_pure, show M.torsionref06_Made x 5 = _ from hA, bnd_pure, from_F ba' (by omega) (by omega), bnd_pure, chk64_pos (by omega)]
  rw [show (spF r m a).Cols = (m : Int) from rfl, hn, hB, bnd_pure, from_F bb' (by omega) (by omega), bnd_pure]
  rw [show (spF r m a).Rows = (r : Int) from rfl, hV, bnd_pure, mul_go ba bb (by omega) (by omega) (by omega) (by omega) (by omega) (by omega), bnd_pure, rmul_ok ba bb (by omega) (by omega) (by omega) (by omega) (by omega) (by omega), bnd_pure,
    times_ok bf ba (by omega) (by omega) (by omega) (by omega) (by omega), bnd_pure, rtimes_ok bf ba (by omega) (by omega) (by omega) (by omega) (by omega), bnd_pure]
  dsimp only
  rw [show (TSparse.mk (spF r n (mulF m a b)).Rows (spF r n (mulF m a b)).Cols (spF r n (mulF m a b)).L) = spF r n (mulF m a b) from rfl, e1, bnd_pure, if_pos rfl, if_pos rfl, samevec_F bt (by omega), bnd_pure, if_pos rfl]
  rw [decide_eq_false (show ¬ (0 : Int) ≠ 0 from fun h => h rfl)]
  unfold M.torsionlaw06_SparseMatchesReference_j1
  rw [if_neg Bool.false_ne_true, if_pos rfl, transpose_ok (by omega) (by omega), bnd_pure, rtranspose_ok ba' (by omega) (by omega), bnd_pure, e2, bnd_pure, if_pos rfl, z1, bnd_pure, z2, bnd_pure, if_pos rfl,
    rto_ok (by omega) (by omega), bnd_pure, sfrom_ok ba (by omega) (by omega), bnd_pure, e3, bnd_pure, if_pos rfl, e5, bnd_pure, e4, bnd_pure, if_pos (by simp), e6, bnd_pure, if_pos rfl, svalid_ok ba' (by omega) (by omega), bnd_pure]
end Go.Z
end
section
set_option linter.unusedSimpArgs false
set_option linter.unusedVariables false
/- The calculus beneath the proofs: states of a Go activation as (environment of temporaries, frozen heap, owned blocks), and the structural rules of its judgement. No program is named here. -/
namespace Go.Z
open Go Go.RowKit

/-- Temporaries by number. -/
abbrev Env := Nat → Value
def Env.set (ρ : Env) (t : Nat) (v : Value) : Env := fun s => bif Nat.beq s t then v else ρ s
def Env.ev (ρ : Env) : Operand → Value
  | .tmp t => ρ t
  | .const v => v
  | .global g => .pointer (some ⟨g, 0, none⟩)
  | .func f => .func (.func f) #[] #[]

theorem Env.set_eq (ρ : Env) (t : Nat) (v : Value) : ρ.set t v t = v := by simp [Env.set]
theorem beq_ff {s t : Nat} (h : s ≠ t) : Nat.beq s t = false := by
  cases e : Nat.beq s t with
  | false => rfl
  | true => exact absurd (Nat.eq_of_beq_eq_true e) h
theorem Env.set_ne (ρ : Env) {t s : Nat} (v : Value) (h : s ≠ t) : ρ.set t v s = ρ s := by
  simp [Env.set, beq_ff h]

/-- Frozen blocks that are known; owned blocks, by number. -/
abbrev Heap := Nat → Option Obj
abbrev Own := List (Nat × Obj)

class Step (h h' : Heap) : Prop where
  le : ∀ b o, h b = some o → h' b = some o
class Ext (h h' : Heap) : Prop where
  le : ∀ b o, h b = some o → h' b = some o
instance Ext.refl (h : Heap) : Ext h h := ⟨fun _ _ x => x⟩
set_option synthInstance.checkSynthOrder false in
instance Ext.step {a b c : Heap} [s : Step b c] [e : Ext a b] : Ext a c := ⟨fun x o h => s.le x o (e.le x o h)⟩
theorem Ext.toStep {a b : Heap} (e : Ext a b) : Step a b := ⟨e.le⟩

/-- The activation's temporaries read as ρ; its deferred calls are ds. -/
structure Ag (n : Nat) (ds : List Deferred) (a : Act) (ρ : Env) : Prop where
  size : a.tmps.size = n
  defers : a.defers = ds
  get : ∀ t, a.tmps.getD t undef = ρ t

theorem Ag.eval {n : Nat} {ds : List Deferred} {a : Act} {ρ : Env} (h : Ag n ds a ρ) : a.eval = ρ.ev := by
  funext x
  cases x with
  | tmp t => exact h.get t
  | _ => rfl

theorem Ag.put {n : Nat} {ds : List Deferred} {a : Act} {ρ : Env} (h : Ag n ds a ρ) {d : Nat} (hd : Nat.blt d n = true) (v : Value) : Ag n ds (a.put (some d) v) (ρ.set d v) := by
  refine ⟨by simp [Act.put, h.size], h.defers, fun t => ?_⟩
  have hd' : d < a.tmps.size := by rw [h.size]; simpa [Nat.blt_eq] using hd
  by_cases e : t = d
  · subst e; rw [Env.set_eq]; simp [Act.put, hd']
  · rw [Env.set_ne _ _ e, ← h.get t]; simp [Act.put, Array.getElem?_setIfInBounds_ne (Ne.symm e)]

theorem Ag.putNone {n : Nat} {ds : List Deferred} {a : Act} {ρ : Env} (h : Ag n ds a ρ) (v : Value) : Ag n ds (a.put none v) ρ := h

/-- The machine's memory w, as it has grown from w0, where h0 was known: h is frozen in it, L is owned. -/
structure St (w0 : World) (h0 h : Heap) (L : Own) (w : World) : Prop where
  below : Below w0.heap.size w0 w
  ge : ∀ b o, h0 b = some o → h b = some o
  old : ∀ b, b < w0.heap.size → h b = h0 b
  fro : ∀ b o, h b = some o → w.heap[b]? = some o
  own : ∀ p ∈ L, w0.heap.size ≤ p.1 ∧ w.heap[p.1]? = some p.2 ∧ h p.1 = none
  nd : (L.map (·.1)).Nodup

theorem St.lt {w0 : World} {h0 h : Heap} {L : Own} {w : World} (s : St w0 h0 h L w) {b : Nat} {o : Obj} (hb : h b = some o) : b < w.heap.size :=
  (Array.getElem?_eq_some_iff.1 (s.fro b o hb)).1
theorem St.ownLt {w0 : World} {h0 h : Heap} {L : Own} {w : World} (s : St w0 h0 h L w) {p : Nat × Obj} (hp : p ∈ L) : p.1 < w.heap.size :=
  (Array.getElem?_eq_some_iff.1 (s.own p hp).2.1).1

theorem St.drew {w0 : World} {h0 h : Heap} {L : Own} {w : World} (s : St w0 h0 h L w) : St w0 h0 h L { w with drawn := w.drawn + 1 } :=
  ⟨⟨s.below.os, s.below.tape, s.below.output, s.below.size, s.below.block⟩, s.ge, s.old, s.fro, s.own, s.nd⟩

/-- What is known of the memory beside these is forgotten. -/
theorem St.drop {w0 : World} {h0 h : Heap} {p : Nat × Obj} {L : Own} {w : World} (s : St w0 h0 h (p :: L) w) : St w0 h0 h L w :=
  ⟨s.below, s.ge, s.old, s.fro, fun q hq => s.own q (List.mem_cons_of_mem _ hq), (List.nodup_cons.1 (by simpa using s.nd)).2⟩

/-- A new block. -/
theorem St.alloc {w0 : World} {h0 h : Heap} {L : Own} {w : World} (s : St w0 h0 h L w) (o : Obj) : St w0 h0 h ((w.heap.size, o) :: L) (w.alloc o) := by
  have hn : ∀ k, k < w.heap.size → (w.alloc o).heap[k]? = w.heap[k]? := fun k hk => Below.heap_alloc w o k hk
  refine ⟨s.below.alloc s.below.size o, s.ge, s.old, fun b o' hb => (hn b (s.lt hb)).trans (s.fro b o' hb), fun p hp => ?_, ?_⟩
  · rcases List.mem_cons.1 hp with rfl | hp
    · refine ⟨s.below.size, by show (w.heap.push o)[w.heap.size]? = some o; simp, ?_⟩
      cases e : h w.heap.size with
      | none => rfl
      | some o' => exact absurd (s.lt e) (Nat.lt_irrefl _)
    · exact ⟨(s.own p hp).1, (hn _ (s.ownLt hp)).trans (s.own p hp).2.1, (s.own p hp).2.2⟩
  · simp only [List.map_cons, List.nodup_cons]
    refine ⟨fun hm => ?_, s.nd⟩
    obtain ⟨p, hp, e⟩ := List.mem_map.1 hm
    have := s.ownLt hp
    omega

/-- The block at the head of the owned ones is freezed. -/
theorem St.freeze {w0 : World} {h0 h : Heap} {L : Own} {w : World} {b : Nat} {o : Obj} (s : St w0 h0 h ((b, o) :: L) w) :
    St w0 h0 (fun x => if x = b then some o else h x) L w ∧ Step h (fun x => if x = b then some o else h x) := by
  obtain ⟨hb1, hb2, hb3⟩ := s.own (b, o) (List.mem_cons_self ..)
  have hnd : b ∉ L.map (·.1) ∧ (L.map (·.1)).Nodup := List.nodup_cons.1 (by simpa using s.nd)
  refine ⟨⟨s.below, fun x o' hx => ?_, fun x hx => ?_, fun x o' hx => ?_, fun p hp => ?_, hnd.2⟩, ⟨fun x o' hx => ?_⟩⟩
  · have := s.ge x o' hx
    by_cases e : x = b
    · subst e; simp only at hb3; rw [this] at hb3; cases hb3
    · simp [e, this]
  · have : x ≠ b := by simp only at hb1; omega
    simp [this, s.old x hx]
  · by_cases e : x = b
    · subst e; simp only [if_true] at hx; cases hx; exact hb2
    · simp only [e, if_false] at hx; exact s.fro x o' hx
  · have hne : p.1 ≠ b := fun e => hnd.1 (e ▸ List.mem_map_of_mem hp)
    have := s.own p (List.mem_cons_of_mem _ hp)
    exact ⟨this.1, this.2.1, by simp [hne, this.2.2]⟩
  · by_cases e : x = b
    · subst e; simp only at hb3; rw [hx] at hb3; cases hb3
    · simp [e, hx]

/-- An order of the owned blocks is none. -/
theorem St.perm {w0 : World} {h0 h : Heap} {L L' : Own} {w : World} (s : St w0 h0 h L w) (p : L.Perm L') : St w0 h0 h L' w :=
  ⟨s.below, s.ge, s.old, s.fro, fun q hq => s.own q (p.mem_iff.2 hq), (p.map _).nodup_iff.1 s.nd⟩

/-- A change of one owned block alone. -/
theorem St.upd {w0 : World} {h0 h : Heap} {L1 L2 : Own} {w w' : World} {b : Nat} {o o' : Obj} (s : St w0 h0 h (L1 ++ (b, o) :: L2) w)
    (hos : w'.os = w.os) (ht : w'.tape = w.tape) (hout : w'.output = w.output) (hsz : w'.heap.size = w.heap.size)
    (hb : w'.heap[b]? = some o') (hne : ∀ k, k ≠ b → w'.heap[k]? = w.heap[k]?) : St w0 h0 h (L1 ++ (b, o') :: L2) w' := by
  have hm : (b, o) ∈ L1 ++ (b, o) :: L2 := by simp
  obtain ⟨hb1, hb2, hb3⟩ := s.own _ hm
  have hnd := s.nd
  refine ⟨⟨hos.trans s.below.os, ht.trans s.below.tape, hout.trans s.below.output, by rw [hsz]; exact s.below.size, fun k hk => ?_⟩, s.ge, s.old, fun x ox hx => ?_, fun p hp => ?_, ?_⟩
  · rw [hne k (by simp only at hb1; omega)]; exact s.below.block k hk
  · rw [hne x (fun e => by subst e; rw [hx] at hb3; cases hb3)]; exact s.fro x ox hx
  · rcases List.mem_append.1 hp with h | h
    · have hpb : p.1 ≠ b := fun e => by
        have hx : b ∈ L1.map (·.1) := e ▸ List.mem_map_of_mem h
        rw [List.map_append, List.nodup_append] at hnd
        exact hnd.2.2 b hx b (by simp) rfl
      have := s.own p (List.mem_append_left _ h)
      exact ⟨this.1, (hne _ hpb).trans this.2.1, this.2.2⟩
    · rcases List.mem_cons.1 h with rfl | h
      · exact ⟨hb1, hb, hb3⟩
      · have hpb : p.1 ≠ b := fun e => by
          have hx : b ∈ L2.map (·.1) := e ▸ List.mem_map_of_mem h
          rw [List.map_append, List.nodup_append] at hnd
          have := hnd.2.1
          simp only [List.map_cons, List.nodup_cons] at this
          exact this.1 hx
        have := s.own p (List.mem_append_right _ (List.mem_cons_of_mem _ h))
        exact ⟨this.1, (hne _ hpb).trans this.2.1, this.2.2⟩
  · simpa using hnd

/-- The fence under which everything is walked: any function, any depth; in a round of a range over a function or not. -/
def fen (r : Option Nat) : Fence := { fn := fun _ => True, depth := none, alive := false, round := r }
theorem fen_none : fen none = Fence.wide := rfl

/-- What stays the same while one activation is walked: program, round, number of temporaries, memory and frozen blocks at the beginning. -/
structure Cfg where
  P : Program
  r : Option Nat
  n : Nat
  w0 : World
  h0 : Heap

abbrev Post := Exit → List Deferred → Env → Heap → Own → Prop

def lift (C : Cfg) (Q : Post) : Exit → Act → World → Prop := fun e a w =>
  ∃ ds ρ h L, Ag C.n ds a ρ ∧ St C.w0 C.h0 h L w ∧ Q e ds ρ h L

def J (C : Cfg) (c : Code) (Q : Post) (ds : List Deferred) (ρ : Env) (h : Heap) (L : Own) : Prop :=
  ∀ a w, Ag C.n ds a ρ → St C.w0 C.h0 h L w → c.wpIn (fen C.r) 0 C.P (lift C Q) a w

@[reducible] def thenQ (K : List Deferred → Env → Heap → Own → Prop) (Q : Post) : Post
  | .normal, ds, ρ, h, L => K ds ρ h L
  | e, ds, ρ, h, L => Q e ds ρ h L
@[reducible] def inB (id : Nat) (Q : Post) : Post
  | .exit id', ds, ρ, h, L => bif Nat.beq id' id then Q .normal ds ρ h L else Q (.exit id') ds ρ h L
  | e, ds, ρ, h, L => Q e ds ρ h L

variable {C : Cfg} {Q Q' : Post} {ds : List Deferred} {ρ : Env} {h : Heap} {L : Own}

theorem J.mono {c : Code} (hj : J C c Q ds ρ h L) (hq : ∀ e ds ρ h L, Q e ds ρ h L → Q' e ds ρ h L) : J C c Q' ds ρ h L :=
  fun a w ha hs => wpIn_mono (hj a w ha hs) fun _ _ _ ⟨ds, ρ, h, L, x, y, z⟩ => ⟨ds, ρ, h, L, x, y, hq _ _ _ _ _ z⟩

theorem J.seq {x y : Code} (hx : J C x (thenQ (J C y Q) Q) ds ρ h L) : J C (.seq x y) Q ds ρ h L := fun a w ha hs => by
  refine wpIn_seq (wpIn_mono (hx a w ha hs) ?_)
  rintro e a' w' ⟨ds', ρ', h', L', h1, h2, h3⟩
  cases e <;> first | exact h3 a' w' h1 h2 | exact ⟨ds', ρ', h', L', h1, h2, h3⟩
theorem J.skip (hq : Q .normal ds ρ h L) : J C .skip Q ds ρ h L := fun _ _ ha hs => wpIn_skip ⟨_, _, _, _, ha, hs, hq⟩
theorem J.label {l : Nat} (hq : Q .normal ds ρ h L) : J C (.label l) Q ds ρ h L := fun _ _ ha hs => wpIn_label ⟨_, _, _, _, ha, hs, hq⟩
theorem J.exit {id : Nat} (hq : Q (.exit id) ds ρ h L) : J C (.exit id) Q ds ρ h L := fun _ _ ha hs => wpIn_exit ⟨_, _, _, _, ha, hs, hq⟩
theorem J.ret (hq : Q .ret ds ρ h L) : J C .ret Q ds ρ h L := fun _ _ ha hs => wpIn_ret ⟨_, _, _, _, ha, hs, hq⟩
theorem J.cond {c : Operand} {x y : Code} {t : Bool} (hc : ρ.ev c = .bool t) (ht : t = true → J C x Q ds ρ h L) (hf : t = false → J C y Q ds ρ h L) :
    J C (.cond c x y) Q ds ρ h L := fun a w ha hs => by
  have hc' : a.eval c = .bool t := by rw [ha.eval]; exact hc
  cases t
  · exact wpIn_cond_false hc' (hf rfl a w ha hs)
  · exact wpIn_cond_true hc' (ht rfl a w ha hs)
theorem J.condT {c : Operand} {x y : Code} {t : Bool} (hc : ρ.ev c = .bool t) (ht : t = true) (hx : J C x Q ds ρ h L) : J C (.cond c x y) Q ds ρ h L :=
  J.cond hc (fun _ => hx) (fun e => by rw [ht] at e; cases e)
theorem J.condF {c : Operand} {x y : Code} {t : Bool} (hc : ρ.ev c = .bool t) (ht : t = false) (hx : J C y Q ds ρ h L) : J C (.cond c x y) Q ds ρ h L :=
  J.cond hc (fun e => by rw [ht] at e; cases e) (fun _ => hx)
/-- The test is a decision of p. -/
theorem J.condD {c : Operand} {x y : Code} {p : Prop} [Decidable p] (hc : ρ.ev c = .bool (decide p)) (ht : p → J C x Q ds ρ h L) (hf : ¬ p → J C y Q ds ρ h L) :
    J C (.cond c x y) Q ds ρ h L := J.cond hc (fun e => ht (of_decide_eq_true e)) (fun e => hf (of_decide_eq_false e))
theorem J.block {id : Nat} {c : Code} (hj : J C c (inB id Q) ds ρ h L) : J C (.block id c) Q ds ρ h L := fun a w ha hs => by
  refine wpIn_block (wpIn_mono (hj a w ha hs) ?_)
  rintro e a' w' ⟨ds', ρ', h', L', h1, h2, h3⟩
  cases e with
  | exit id' =>
    by_cases e : id' = id
    · subst e; simp only [inB, Nat.beq_refl, cond_true] at h3
      simp only [Exit.inBlock, if_true]; exact ⟨ds', ρ', h', L', h1, h2, h3⟩
    · simp only [inB, beq_ff e, cond_false] at h3
      simp only [Exit.inBlock, e, if_false]; exact ⟨ds', ρ', h', L', h1, h2, h3⟩
  | _ => exact ⟨ds', ρ', h', L', h1, h2, h3⟩
theorem stepR_scope {P : Program} {b : Frame} {a : Act} {k : List Item} {cs : List Frame} {w : World} {c : Code} :
    step P (lone (b.atR a (.code (.scope c) :: k)) cs w) = .next (lone (b.atR a (.code c :: .inScope c :: k)) cs w) :=
  step_lone_go (by simp [stepG, stepG.exec, Frame.atR])
theorem stepR_inScope {P : Program} {b : Frame} {a : Act} {k : List Item} {cs : List Frame} {w : World} {c : Code} :
    step P (lone (b.atR a (.inScope c :: k)) cs w) = .next (lone (b.atR a k) cs w) :=
  step_lone_go (by simp [stepG, stepG.exec, Frame.atR])
theorem wpIn_scope {F : Fence} {n : Nat} {P : Program} {c : Code} {Q : Exit → Act → World → Prop} {a : Act} {w : World}
    (hg : ∀ l a w, Q (.goto l) a w → False) (h : c.wpIn F n P Q a w) : (Code.scope c).wpIn F n P Q a w := by
  intro b k cs hro hb hr
  have h0 : (lone (b.atR a (.code (.scope c) :: k)) cs w).fenced P F := fenced_calm hb hr rfl
  obtain ⟨e, a₁, w₁, hq, harr⟩ := h b (.inScope c :: k) cs hro hb hr
  cases e with
  | normal => exact ⟨.normal, a₁, w₁, hq, .head h0 stepR_scope (StepsIn.trans harr (.one (fenced_calm hb hr rfl) stepR_inScope))⟩
  | exit id =>
    have hx : exitTo id (.inScope c :: k) = exitTo id k := by simp [exitTo]
    exact ⟨_, a₁, w₁, hq, fun k' hk => .head h0 stepR_scope (harr.1 k' (by rw [hx]; exact hk)),
      fun hr' hk => let ⟨k₁, h1, h2⟩ := harr.2 hr' (by rw [hx]; exact hk); ⟨k₁, h1, .head h0 stepR_scope h2⟩⟩
  | goto l => exact (hg _ _ _ hq).elim
  | ret => exact ⟨_, a₁, w₁, hq, .of_steps (.one h0 stepR_scope) harr⟩
  | panic ch => exact ⟨_, a₁, w₁, hq, .of_steps (.one h0 stepR_scope) harr⟩
  | outgrown => exact ⟨_, a₁, w₁, hq, .of_steps (.one h0 stepR_scope) harr⟩
@[reducible] def noGo (Q : Post) : Post
  | .goto _, _, _, _, _ => False
  | e, ds, ρ, h, L => Q e ds ρ h L
theorem J.scope {c : Code} (hj : J C c (noGo Q) ds ρ h L) : J C (.scope c) Q ds ρ h L := fun a w ha hs => by
  refine wpIn_mono (wpIn_scope (Q := lift C (noGo Q)) (fun l a w ⟨_, _, _, _, _, _, x⟩ => x) (hj a w ha hs)) ?_
  rintro e a' w' ⟨ds', ρ', h', L', h1, h2, h3⟩
  cases e with
  | goto l => exact h3.elim
  | _ => exact ⟨ds', ρ', h', L', h1, h2, h3⟩

/-- A loop: the slots of 'keep' hold what they held at its beginning; those of 'live x' hold what x says; 'I x' speaks of the owned blocks and the frozen ones; x goes down. -/
def setAll (ρ : Env) : List (Nat × Value) → Env
  | [] => ρ
  | (t, v) :: l => (setAll ρ l).set t v
def Has (ρ : Env) : List (Nat × Value) → Prop
  | [] => True
  | (t, v) :: l => ρ t = v ∧ Has ρ l
theorem setAll_self : ∀ (ρ : Env) (l : List (Nat × Value)), Has ρ l → setAll ρ l = ρ
  | _, [], _ => rfl
  | ρ, (t, v) :: l, ⟨e, hl⟩ => by
    rw [setAll, setAll_self ρ l hl]
    funext s
    by_cases e' : s = t
    · subst e'; rw [Env.set_eq, e]
    · rw [Env.set_ne _ _ e']

def keepOf (ρ : Env) : List Nat → List (Nat × Value)
  | [] => []
  | t :: l => (t, ρ t) :: keepOf ρ l

theorem J.loop {α : Type} {c : Code} (I : α → Heap → Own → Prop) (keep : List Nat) (sl : α → List (Nat × Value)) (μ : α → Nat) (x0 : α)
    (h0 : I x0 h L) (hs : Has ρ (sl x0))
    (round : ∀ x σ h' L', Step h h' → I x h' L' →
      J C c (thenQ (fun ds' ρ' h'' L'' => ∃ x', ds' = ds ∧ Has ρ' (keepOf ρ keep) ∧ Has ρ' (sl x') ∧ I x' h'' L'' ∧ μ x' < μ x ∧ Ext h h'') Q) ds
        (setAll (setAll σ (keepOf ρ keep)) (sl x)) h' L') : J C (.loop c) Q ds ρ h L := by
  have hk : ∀ l : List Nat, Has ρ (keepOf ρ l) := fun l => by induction l with
    | nil => trivial
    | cons t l ih => exact ⟨rfl, ih⟩
  have key : ∀ m x ρ' h' L', μ x < m → Ext h h' → Has ρ' (keepOf ρ keep) → Has ρ' (sl x) → I x h' L' → ∀ a w, Ag C.n ds a ρ' → St C.w0 C.h0 h' L' w →
      Code.roundsIn (fen C.r) 0 C.P c (lift C Q) m a w := by
    intro m
    induction m with
    | zero => intro x _ _ _ hm; exact absurd hm (Nat.not_lt_zero _)
    | succ m ih =>
      intro x ρ' h' L' hm hx hk' hsl hI a w ha hst
      have hj := round x ρ' h' L' hx.toStep hI
      rw [setAll_self _ _ hk', setAll_self _ _ hsl] at hj
      refine wpIn_mono (hj a w ha hst) ?_
      rintro e a' w' ⟨ds', ρ2, h2, L2, g1, g2, g3⟩
      cases e with
      | normal =>
        obtain ⟨x', rfl, e1, e2, e3, e4, e5⟩ := g3
        exact ih x' ρ2 h2 L2 (by omega) e5 e1 e2 e3 a' w' g1 g2
      | _ => exact ⟨_, _, _, _, g1, g2, g3⟩
  exact fun a w ha hst => wpIn_loop_rounds (μ x0 + 1) (key (μ x0 + 1) x0 ρ h L (Nat.lt_succ_self _) inferInstance (hk keep) hs h0 a w ha hst)

/-- A post between two pieces of code. -/
theorem J.cut {x y : Code} (K : List Deferred → Env → Heap → Own → Prop) (hx : J C x (thenQ K Q) ds ρ h L) (hy : ∀ ds ρ h L, K ds ρ h L → J C y Q ds ρ h L) :
    J C (.seq x y) Q ds ρ h L :=
  J.seq (hx.mono fun e ds ρ h L q => by cases e <;> first | exact hy _ _ _ _ q | exact q)

/-- A post between two pieces of code, in a loop's words. -/
theorem J.cutS {α : Type} {x y : Code} (I : α → Heap → Own → Prop) (keep : List Nat) (sl : α → List (Nat × Value))
    (hx : J C x (thenQ (fun ds' ρ' h' L' => ∃ z, ds' = ds ∧ Has ρ' (keepOf ρ keep) ∧ Has ρ' (sl z) ∧ I z h' L' ∧ Ext h h') Q) ds ρ h L)
    (hy : ∀ z σ h' L', Step h h' → I z h' L' → J C y Q ds (setAll (setAll σ (keepOf ρ keep)) (sl z)) h' L') : J C (.seq x y) Q ds ρ h L :=
  J.cut _ hx fun ds' ρ' h' L' ⟨z, e, k1, k2, k3, k4⟩ => by
    subst e
    have := hy z ρ' h' L' k4.toStep k3
    rwa [setAll_self _ _ k1, setAll_self _ _ k2] at this

theorem J.drop {c : Code} {p : Nat × Obj} (hj : J C c Q ds ρ h L) : J C c Q ds ρ h (p :: L) := fun a w ha hs => hj a w ha hs.drop
theorem J.freeze {c : Code} {b : Nat} {o : Obj} (hj : ∀ h', Step h h' → h' b = some o → J C c Q ds ρ h' L) : J C c Q ds ρ h ((b, o) :: L) :=
  fun a w ha hs => hj _ hs.freeze.2 (by simp) a w ha hs.freeze.1
theorem J.perm {c : Code} {L' : Own} (hp : L.Perm L') (hj : J C c Q ds ρ h L') : J C c Q ds ρ h L := fun a w ha hs => hj a w ha (hs.perm hp)

/-- What a call gives: a value and frozen blocks of which R speaks; whatever was there before stays. -/
def Fn (P : Program) (f : FuncId) (args : Array Value) (h : Heap) (R : Value → Heap → Prop) : Prop :=
  ∀ w, (∀ b o, h b = some o → w.heap[b]? = some o) → Calls P f args w fun e w' => ∃ v h', e = .returned v ∧ Below w.heap.size w w' ∧ Ext h h' ∧
    (∀ b, b < w.heap.size → h' b = h b) ∧ (∀ b o, h' b = some o → w'.heap[b]? = some o) ∧ R v h'

theorem Fn.mono {P : Program} {f : FuncId} {args : Array Value} {h : Heap} {R R' : Value → Heap → Prop} (hf : Fn P f args h R) (hr : ∀ v h', Ext h h' → R v h' → R' v h') : Fn P f args h R' :=
  fun w hw => (hf w hw).mono fun _ _ ⟨v, h', a, b, c, d, e, f⟩ => ⟨v, h', a, b, c, d, e, hr _ _ c f⟩

def argEnv (l : List Value) : Env := fun t => l.getD t undef

theorem results_run {P : Program} {n : Nat} {ds : List Deferred} {a : Act} {ρ : Env} {w : World} {fn : Func} {t : Tmp} (ha : Ag n ds a ρ) (hr : fn.results = #[.tmp t]) :
    (results fn a.tmps).run P w = .ok (ρ t) w := by
  rw [results_tmp hr, ha.get]

def RetR (C : Cfg) (fn : Func) (ρ : Env) (h : Heap) (L : Own) (v : Value) : Prop :=
  ∀ a w ds, Ag C.n ds a ρ → St C.w0 C.h0 h L w → (results fn a.tmps).run C.P w = .ok v w

/-- What the body of a function must come to. -/
def retQ (C : Cfg) (fn : Func) (R : Value → Heap → Prop) : Post := fun e ds ρ h L =>
  (e = .normal ∨ e = .ret) ∧ ds = [] ∧ ∃ v, RetR C fn ρ h L v ∧ R v h

theorem Fn.intro {P : Program} {f : FuncId} {fn : Func} {c : Code} {args : List Value} {h : Heap} {R : Value → Heap → Prop} {n : Nat} (hf : P.funcs[f]? = some fn) (hb : fn.body = some c)
    (hn : fn.ntmps = n) (hl : args.length ≤ n)
    (hj : ∀ w, J ⟨P, none, n, w, h⟩ c (retQ ⟨P, none, n, w, h⟩ fn R) [] (argEnv args) h []) : Fn P f args.toArray h R := by
  intro w hw
  refine (callsIn_wide (n := 0)).1 (callsIn_of_wp hf hb trivial (wpIn_mono (hj w _ w ⟨?_, rfl, fun t => ?_⟩ ⟨Below.refl _ _, fun _ _ x => x, fun _ _ => rfl, hw, fun _ hp => (by cases hp), by simp⟩) ?_))
  · simp [hn]; omega
  · simp only [argEnv, List.getD_eq_getElem?_getD]
    rcases Nat.lt_or_ge t args.length with ht | ht
    · simp [Array.getElem?_append, ht]
    · by_cases h2 : t - args.length < fn.ntmps - args.length
      · simp [Array.getElem?_append, Nat.not_lt.2 ht, List.getElem?_eq_none ht, h2]
      · simp [Array.getElem?_append, Nat.not_lt.2 ht, List.getElem?_eq_none ht, h2]
  · rintro e a' w' ⟨ds, ρ, h', L, h1, h2, he, rfl, v, hv, hR⟩
    have hres := hv a' w' _ h1 h2
    have post : a'.defers = [] ∧ ∃ v, (results fn a'.tmps).run P w' = .ok v w' ∧ ∃ v1 h', Ending.returned v = .returned v1 ∧ Below w.heap.size w w' ∧ Ext h h' ∧
      (∀ b, b < w.heap.size → h' b = h b) ∧ (∀ b o, h' b = some o → w'.heap[b]? = some o) ∧ R v1 h' :=
      ⟨h1.defers, v, hres, v, h', rfl, h2.below, ⟨h2.ge⟩, h2.old, h2.fro, hR⟩
    rcases he with rfl | rfl
    · exact post
    · exact post
end Go.Z
end
section
set_option linter.unusedSimpArgs false
set_option linter.unusedVariables false
/- The calculus beneath the proofs: lists of operations, guards, and one rule for each kind of operation that makes no block. No program is named here. -/
namespace Go.Z
open Go Go.RowKit

def wpL (r : Option Nat) (P : Program) (ops : Array Oper) (Q : Exit → Act → World → Prop) : List Oper → Act → World → Prop
  | [], a, w => Q .normal a w
  | o :: rest, a, w => if Region.wanted o (yielded ops a.tmps) then o.wpIn (fen r) 0 P a w (wpL r P ops Q rest) Q else wpL r P ops Q rest (a.put o.dst undef) w

theorem wpOpsIn_eq {r : Option Nat} {P : Program} {ops : Array Oper} {Q : Exit → Act → World → Prop} (l : List Oper) : ∀ k, (∀ j, l[j]? = ops[k + j]?) → ∀ a w, wpL r P ops Q l a w → wpOpsIn (fen r) 0 P ops Q (List.range' k l.length) a w := by
  induction l with
  | nil => intro k _ a w h; simpa [wpOpsIn, wpL] using h
  | cons o l ih =>
    intro k h a w hw
    have h0 : ops[k]? = some o := by simpa using (h 0).symm
    have ih' := ih (k + 1) (fun j => by have := h (j + 1); simpa [Nat.add_assoc, Nat.add_comm 1 j] using this)
    simp only [List.length_cons, List.range'_succ, wpOpsIn, h0]
    simp only [wpL] at hw
    split
    · rename_i hx; rw [if_pos hx] at hw
      refine ⟨hw.1, ?_⟩
      have := hw.2
      generalize (o.semAt (fen r).round a.eval).run P w = res at this ⊢
      cases res with
      | ok nx w' =>
        cases nx <;> simp only [Oper.uponIn] at this ⊢ <;>
          first
            | exact ih' _ _ this
            | exact ⟨this.1, CallsIn.mono this.2 (fun e w'' he => by cases e <;> first | exact ih' _ _ he | exact he)⟩
            | exact ⟨this.1, RowsIn.mono this.2 (fun _ _ he => ih' _ _ he)⟩
            | exact ⟨this.1, RoundIn.mono this.2 (fun e w'' he => by cases e <;> first | exact ih' _ _ he | exact he)⟩
      | halt x w' => cases x <;> simp only [Oper.uponIn] at this ⊢ <;> exact this
    · rename_i hx; rw [if_neg hx] at hw
      exact ⟨fun _ _ => trivial, ih' _ _ hw⟩

def JL (C : Cfg) (ops : Array Oper) (Q : Post) (rest : List Oper) (ds : List Deferred) (ρ : Env) (h : Heap) (L : Own) : Prop :=
  ∀ a w, Ag C.n ds a ρ → St C.w0 C.h0 h L w → wpL C.r C.P ops (lift C Q) rest a w

variable {C : Cfg} {Q Q' : Post} {ds : List Deferred} {ρ : Env} {h : Heap} {L : Own} {ops : Array Oper} {rest : List Oper}

theorem J.region {id : Nat} {l : List Oper} (hj : JL C l.toArray Q l ds ρ h L) : J C (.region id l.toArray false) Q ds ρ h L := fun a w ha hs => by
  refine wpIn_region ?_
  have := wpOpsIn_eq l 0 (fun j => by simp) a w (hj a w ha hs)
  simpa [List.range_eq_range'] using this

theorem JL.nil (hq : Q .normal ds ρ h L) : JL C ops Q [] ds ρ h L := fun _ _ ha hs => ⟨_, _, _, _, ha, hs, hq⟩

/-- A deferring statement is none of these. -/
def calm : Op → Bool
  | .defer _ => false
  | _ => true
theorem semAt_calm {r : Option Nat} {ρ : Operand → Value} {o : Oper} (hc : calm o.op = true) : o.semAt r ρ = execOp ρ o :=
  Oper.semAt_eq _ _ _ fun c e => by rw [e] at hc; cases hc

theorem JL.step {o : Oper} (hg : o.guard = none) (hc : calm o.op = true)
    (run : ∀ a w, Ag C.n ds a ρ → St C.w0 C.h0 h L w → o.uponIn (fen C.r) 0 C.P a (wpL C.r C.P ops (lift C Q) rest) (lift C Q) ((execOp ρ.ev o).run C.P w)) :
    JL C ops Q (o :: rest) ds ρ h L := fun a w ha hs => by
  simp only [wpL, Region.wanted, hg, if_true]
  exact ⟨fun _ _ => trivial, by rw [semAt_calm hc, ha.eval]; exact run a w ha hs⟩

/-- An operation that gives a value. -/
theorem JL.val {o : Oper} {d : Nat} (hg : o.guard = none) (hc : calm o.op = true) (hd : o.dst = some d) (hn : Nat.blt d C.n = true)
    (run : ∀ w, St C.w0 C.h0 h L w → ∃ v h' L' w', (execOp ρ.ev o).run C.P w = .ok (.value v) w' ∧ St C.w0 C.h0 h' L' w' ∧ JL C ops Q rest ds (ρ.set d v) h' L') :
    JL C ops Q (o :: rest) ds ρ h L := JL.step hg hc fun a w ha hs => by
  obtain ⟨v, h', L', w', hr, hs', hk⟩ := run w hs
  rw [hr, Oper.uponIn_value, hd]
  exact hk _ _ (ha.put hn v) hs'

/-- One that gives a value and leaves the memory as it is. -/
theorem JL.pure {o : Oper} {d : Nat} {v : Value} (hg : o.guard = none) (hc : calm o.op = true) (hd : o.dst = some d) (hn : Nat.blt d C.n = true)
    (run : ∀ w, St C.w0 C.h0 h L w → (execOp ρ.ev o).run C.P w = .ok (.value v) w) (k : JL C ops Q rest ds (ρ.set d v) h L) :
    JL C ops Q (o :: rest) ds ρ h L := JL.val hg hc hd hn fun w hs => ⟨v, h, L, w, run w hs, hs, k⟩

/-- One that gives none. -/
theorem JL.unit {o : Oper} (hg : o.guard = none) (hc : calm o.op = true) (hd : o.dst = none)
    (run : ∀ w, St C.w0 C.h0 h L w → ∃ h' L' w', (execOp ρ.ev o).run C.P w = .ok .skip w' ∧ St C.w0 C.h0 h' L' w' ∧ JL C ops Q rest ds ρ h' L') :
    JL C ops Q (o :: rest) ds ρ h L := JL.step hg hc fun a w ha hs => by
  obtain ⟨h', L', w', hr, hs', hk⟩ := run w hs
  rw [hr, Oper.uponIn_skip, hd]
  exact hk _ _ (ha.putNone undef) hs'

theorem yielded_eq {n : Nat} {a : Act} (ha : Ag n ds a ρ) {j t : Nat} {b : Bool} (hj : (ops[j]?).bind (·.dst) = some t) (hb : ρ t = .bool b) : yielded ops a.tmps j = some b := by
  have hg := ha.get t
  rw [hb] at hg
  have hlt : t < a.tmps.size := by
    rcases Nat.lt_or_ge t a.tmps.size with h | h
    · exact h
    · simp [Array.getElem?_eq_none h, undef] at hg
  simp only [yielded, hj, Option.bind_some]
  simp [hlt] at hg
  simp [hlt, hg]

section guards
variable {dst : Option Tmp} {op : Op} {ty : TypeId} {pos : String} {after : Array Edge}
theorem JL.guardT {j t : Nat} {b want : Bool} (hj : (ops[j]?).bind (·.dst) = some t) (hb : ρ t = .bool b) (hw : b = want)
    (k : JL C ops Q (⟨dst, op, ty, pos, after, none⟩ :: rest) ds ρ h L) : JL C ops Q (⟨dst, op, ty, pos, after, some (j, want)⟩ :: rest) ds ρ h L := fun a w ha hs => by
  have := k a w ha hs
  have hw1 : Region.wanted ⟨dst, op, ty, pos, after, some (j, want)⟩ (yielded ops a.tmps) = true := by
    simp only [Region.wanted]; rw [yielded_eq ha hj hb, hw]; simp
  have hw0 : Region.wanted ⟨dst, op, ty, pos, after, none⟩ (yielded ops a.tmps) = true := rfl
  simp only [wpL] at this ⊢
  rw [if_pos hw1]
  rw [if_pos hw0] at this
  exact this
theorem JL.guardF {j t d : Nat} {b want : Bool} (hj : (ops[j]?).bind (·.dst) = some t) (hb : ρ t = .bool b) (hw : b = !want) (hn : Nat.blt d C.n = true)
    (k : JL C ops Q rest ds (ρ.set d undef) h L) : JL C ops Q (⟨some d, op, ty, pos, after, some (j, want)⟩ :: rest) ds ρ h L := fun a w ha hs => by
  have hw1 : ¬ Region.wanted ⟨some d, op, ty, pos, after, some (j, want)⟩ (yielded ops a.tmps) = true := by
    simp only [Region.wanted]; rw [yielded_eq ha hj hb, hw]; cases want <;> simp
  simp only [wpL]
  rw [if_neg hw1]
  exact k _ _ (ha.put hn undef) hs
end guards

/-- The worlds in which h is frozen and L owned, and perhaps more. -/
def SS (C : Cfg) (h : Heap) (L : Own) : World → Prop := fun w => ∃ h' L', Ext h h' ∧ (∀ p ∈ L, p ∈ L') ∧ St C.w0 C.h0 h' L' w
/-- The operation yields v in every world that meets S, and leaves it as it is. -/
def Qr (C : Cfg) (ρ : Env) (S : World → Prop) (op : Op) (ty : TypeId) (v : Value) : Prop :=
  calm op = true ∧ ∀ w, S w → (execOp ρ.ev ⟨none, op, ty, "", #[], none⟩).run C.P w = .ok (.value v) w

section ops
variable {d : Nat} {ty : TypeId} {pos : String} {after : Array Edge} {op : Op} {S : World → Prop}
theorem Qr.exec {v : Value} (q : Qr C ρ S op ty v) {dst : Option Tmp} {g : Option (Nat × Bool)} {w : World} (hw : S w) : (execOp ρ.ev ⟨dst, op, ty, pos, after, g⟩).run C.P w = .ok (.value v) w := q.2 w hw
theorem o_q {v : Value} (q : Qr C ρ (SS C h L) op ty v) (k : JL C ops Q rest ds (ρ.set d v) h L) (hn : Nat.blt d C.n = true := by rfl) : JL C ops Q (⟨some d, op, ty, pos, after, none⟩ :: rest) ds ρ h L :=
  JL.pure rfl q.1 rfl hn (fun w hs => q.exec ⟨h, L, Ext.refl h, fun _ hp => hp, hs⟩) k
theorem q_mv {x : Operand} : Qr C ρ S (.move x) ty (ρ.ev x) := ⟨rfl, fun _ _ => rfl⟩
theorem q_as {x : Operand} : Qr C ρ S (.assign x) ty (ρ.ev x) := ⟨rfl, fun _ _ => rfl⟩
end ops
end Go.Z
end
section
set_option linter.unusedSimpArgs false
set_option linter.unusedVariables false
/- The calculus beneath the proofs: the rules for operations that only reckon, read or write what is known. No program is named here. -/
set_option linter.unusedSimpArgs false
set_option linter.unusedVariables false
namespace Go.Z
open Go Go.RowKit

/-! ### What is known of a type -/
class Sl (P : Program) (T : TypeId) (e : outParam TypeId) : Prop where u : P.underlying T = some (.slice e)
class Sz (P : Program) (T : TypeId) (n : outParam Nat) : Prop where i : ∃ i, P.info? T = some i ∧ i.size = n
class By (P : Program) (T : TypeId) (n : outParam Nat) : Prop where i : ∃ i, P.info? T = some i ∧ i.bytes = n
class Zv (P : Program) (T : TypeId) (z : outParam (List Value)) : Prop where i : ∃ i v, P.info? T = some i ∧ i.zero = some v ∧ v.cells = ⟨z⟩
class Kd (P : Program) (T : TypeId) (k : outParam IntKind) : Prop where u : P.underlying T = some (.int k)
class Bl (P : Program) (T : TypeId) : Prop where u : P.underlying T = some .bool
/-- Of one cell. -/
class Pr (P : Program) (T : TypeId) : Prop where u : ∃ d, P.underlying T = some d ∧ (match d with | .struct _ | .array _ _ => false | _ => true) = true
/-- A struct or an array, of n cells. -/
class Ag1 (P : Program) (T : TypeId) (n : outParam Nat) : Prop where
  u : ∃ d, P.underlying T = some d ∧ (match d with | .struct _ | .array _ _ => true | _ => false) = true
  i : ∃ i, P.info? T = some i ∧ i.size = n
/-- Field f of the struct T begins at off. -/
class Fo (P : Program) (T : TypeId) (f : Nat) (off : outParam Nat) : Prop where
  u : ∃ fs fd i, P.underlying T = some (.struct fs) ∧ fs[f]? = some fd ∧ fd.offset = off ∧ P.info? fd.type = some i ∧ (i.size == 0) = false
class Ent (P : Program) (f : FuncId) : Prop where e : ∀ args w, (callFunc f args).run P w = .ok (.enter f args) w

abbrev row (T : TypeId) (l : List Value) : Obj := .cells ⟨l⟩ T (0, 0)

variable {C : Cfg} {Q Q' : Post} {ds : List Deferred} {ρ : Env} {h : Heap} {L : Own} {ops : Array Oper} {rest : List Oper}
variable {d : Nat} {ty : TypeId} {pos : String} {after : Array Edge} {S : World → Prop}

theorem sz_of {P : Program} {T n : Nat} (h : (P.info? T).map (·.size) = some n) : Sz P T n := ⟨by
  cases e : P.info? T with
  | none => rw [e] at h; cases h
  | some i => rw [e] at h; exact ⟨i, rfl, by simpa using h⟩⟩
theorem by_of {P : Program} {T n : Nat} (h : (P.info? T).map (·.bytes) = some n) : By P T n := ⟨by
  cases e : P.info? T with
  | none => rw [e] at h; cases h
  | some i => rw [e] at h; exact ⟨i, rfl, by simpa using h⟩⟩
theorem zv_of {P : Program} {T : Nat} {z : List Value} (h : (P.info? T).bind (fun i => i.zero.map (·.cells.toList)) = some z) : Zv P T z := ⟨by
  cases e : P.info? T with
  | none => rw [e] at h; cases h
  | some i =>
    rw [e] at h
    cases ez : i.zero with
    | none => simp [ez] at h
    | some v => simp [ez] at h; exact ⟨i, v, rfl, ez, by rw [← h]⟩⟩
theorem pr_of {P : Program} {T : Nat} (h : (P.underlying T).map (fun d => match d with | .struct _ | .array _ _ => false | _ => true) = some true) : Pr P T := ⟨by
  cases e : P.underlying T with
  | none => rw [e] at h; cases h
  | some d => rw [e] at h; exact ⟨d, rfl, by simpa using h⟩⟩
theorem ag_of {P : Program} {T n : Nat} (h : (P.underlying T).map (fun d => match d with | .struct _ | .array _ _ => true | _ => false) = some true) (hs : (P.info? T).map (·.size) = some n) : Ag1 P T n := ⟨by
  cases e : P.underlying T with
  | none => rw [e] at h; cases h
  | some d => rw [e] at h; exact ⟨d, rfl, by simpa using h⟩, (sz_of hs).i⟩
def foCheck (P : Program) (T f : Nat) : Option (Nat × Nat) :=
  match P.underlying T with
  | some (.struct fs) => match fs[f]? with
    | some fd => match P.info? fd.type with
      | some i => some (fd.offset, i.size)
      | none => none
    | none => none
  | _ => none
theorem fo_of {P : Program} {T f off : Nat} (n : Nat) (h : foCheck P T f = some (off, n)) (hn : (n == 0) = false) : Fo P T f off := ⟨by
  unfold foCheck at h
  split at h
  · rename_i fs hu
    split at h
    · rename_i fd hf
      split at h
      · rename_i i hi
        simp at h
        exact ⟨fs, fd, i, hu, hf, h.1, hi, by rw [h.2]; exact hn⟩
      · cases h
    · cases h
  · cases h⟩
theorem ent_of {P : Program} {f : FuncId} {fn : Func} (hf : P.funcs[f]? = some fn) (h : (fn.body.isNone || fn.name == "runtime.NumGoroutine") = false) : Ent P f := ⟨fun args w => by
  simp only [Bool.or_eq_false_iff] at h
  have h1 : ¬ fn.name = "runtime.NumGoroutine" := by simpa using h.2
  have h2 : ¬ fn.body = none := fun e => by simp [e] at h
  simp [callFunc, program, Sem.run, bind, Sem.bind, hf, h1, h2, pure]⟩
theorem run_isAgg {P : Program} {T : TypeId} {w : World} (hp : Pr P T) : (isAgg T).run P w = .ok false w := by
  obtain ⟨d, hd, hm⟩ := hp.u
  simp only [isAgg, underlying, program, bind, Sem.bind, Sem.run, hd, pure]
  cases d <;> simp_all [Sem.run, Sem.bind]
theorem run_isAgg1 {P : Program} {T n : TypeId} {w : World} (hp : Ag1 P T n) : (isAgg T).run P w = .ok true w := by
  obtain ⟨d, hd, hm⟩ := hp.u
  simp only [isAgg, underlying, program, bind, Sem.bind, Sem.run, hd, pure]
  cases d <;> simp_all [Sem.run, Sem.bind]


theorem wrap_in {k : IntKind} {n : Int} (h : k.min ≤ n ∧ n ≤ k.max) : k.wrap n = n := by
  cases k <;> simp only [IntKind.min, IntKind.max, IntKind.signed, IntKind.bits, if_true, Bool.false_eq_true, if_false] at h <;> simp only [IntKind.wrap, IntKind.signed, IntKind.bits] <;> simp at h ⊢ <;> omega

theorem wi64 {n : Int} (h : -9223372036854775808 ≤ n ∧ n ≤ 9223372036854775807) : IntKind.i64.wrap n = n := IntWalk.i64_in n h
theorem wu32 {n : Int} (h : 0 ≤ n ∧ n ≤ 4294967295) : IntKind.u32.wrap n = n := IntWalk.u32_in n h
theorem wu64 {n : Int} (h : 0 ≤ n ∧ n ≤ 18446744073709551615) : IntKind.u64.wrap n = n := by rw [IntKind.wrap_u64]; omega
theorem q_len {x : Operand} {T e : TypeId} [hu : Sl C.P T e] {p : Option Addr} {n c : Nat} (hx : ρ.ev x = .slice p n c) : Qr C ρ S (.call { callee := .builtin .len, args := #[x], argTypes := #[T] }) ty (.int .i64 (n : Int)) := ⟨rfl, fun w _ => by simp [go_sem, hx, hu.u]⟩

section ints
variable {x y : Operand} {T T' : TypeId} {q : IntKind} {a b c : Int}
theorem q_pickT {c x y : Operand} {b : Bool} (hc : ρ.ev c = .bool b) (hb : b = true) : Qr C ρ S (.pick c x y) ty (ρ.ev x) := ⟨rfl, fun w _ => by subst hb; simp [go_sem, hc]⟩
theorem q_pickF {c x y : Operand} {b : Bool} (hc : ρ.ev c = .bool b) (hb : b = false) : Qr C ρ S (.pick c x y) ty (ρ.ev y) := ⟨rfl, fun w _ => by subst hb; simp [go_sem, hc]⟩
theorem q_pick {c x y : Operand} {b : Bool} {v : Value} (hc : ρ.ev c = .bool b) (hv : (if b then ρ.ev x else ρ.ev y) = v) : Qr C ρ S (.pick c x y) ty v := ⟨rfl, fun w _ => by subst hv; simp [go_sem, hc]⟩

/- arithmetic: c is what the sum comes to -/
theorem q_add (hx : ρ.ev x = .int q a) (hy : ρ.ev y = .int q b) (hc : q.wrap (a + b) = c) : Qr C ρ S (.binOp .add T x y T') ty (.int q c) := ⟨rfl, fun w _ => by subst hc; simp [go_sem, hx, hy]⟩
theorem q_sub (hx : ρ.ev x = .int q a) (hy : ρ.ev y = .int q b) (hc : q.wrap (a - b) = c) : Qr C ρ S (.binOp .sub T x y T') ty (.int q c) := ⟨rfl, fun w _ => by subst hc; simp [go_sem, hx, hy]⟩
theorem q_mul (hx : ρ.ev x = .int q a) (hy : ρ.ev y = .int q b) (hc : q.wrap (a * b) = c) : Qr C ρ S (.binOp .mul T x y T') ty (.int q c) := ⟨rfl, fun w _ => by subst hc; simp [go_sem, hx, hy]⟩
theorem q_quo (hx : ρ.ev x = .int q a) (hy : ρ.ev y = .int q b) (h0 : b ≠ 0) (hc : q.wrap (a.tdiv b) = c) : Qr C ρ S (.binOp .quo T x y T') ty (.int q c) := ⟨rfl, fun w _ => by subst hc; simp [go_sem, hx, hy, h0]⟩
theorem q_rem (hx : ρ.ev x = .int q a) (hy : ρ.ev y = .int q b) (h0 : b ≠ 0) (hc : a.tmod b = c) : Qr C ρ S (.binOp .rem T x y T') ty (.int q c) := ⟨rfl, fun w _ => by subst hc; simp [go_sem, hx, hy, h0]⟩
theorem q_shr {q' : IntKind} (hx : ρ.ev x = .int q a) (hy : ρ.ev y = .int q' b) (h0 : 0 ≤ b) (hc : a.fdiv (2 ^ min b.toNat q.bits) = c) : Qr C ρ S (.binOp .shr T x y T') ty (.int q c) := ⟨rfl, fun w _ => by
      have hb : ¬ b < 0 := by omega
      subst hc; simp [execOp, eqGuard, binOp, Op.shift, hx, hy, hb, Sem.run, bind, Sem.bind, pure]⟩
theorem q_shl {q' : IntKind} (hx : ρ.ev x = .int q a) (hy : ρ.ev y = .int q' b) (h0 : 0 ≤ b) (hc : q.wrap (a * 2 ^ min b.toNat q.bits) = c) : Qr C ρ S (.binOp .shl T x y T') ty (.int q c) := ⟨rfl, fun w _ => by
      have hb : ¬ b < 0 := by omega
      subst hc; simp [execOp, eqGuard, binOp, Op.shift, hx, hy, hb, Sem.run, bind, Sem.bind, pure]⟩
theorem q_neg (hx : ρ.ev x = .int q a) (hc : q.wrap (0 - a) = c) : Qr C ρ S (.unOp .neg T x) ty (.int q c) := ⟨rfl, fun w _ => by subst hc; simp [execOp, Op.unary, Op.intArith, hx, Sem.run, bind, Sem.bind, pure]⟩
theorem q_not {b : Bool} (hx : ρ.ev x = .bool b) : Qr C ρ S (.unOp .not T x) ty (.bool (!b)) := ⟨rfl, fun w _ => by simp [execOp, Op.unary, hx, Sem.run, bind, Sem.bind, pure]⟩
theorem q_cv {T' : TypeId} {q' q0 : IntKind} [hu : Kd C.P T' q'] [hT : Kd C.P T q0] (hx : ρ.ev x = .int q a) (hc : q'.wrap a = c) : Qr C ρ S (.convert T T' x) ty (.int q' c) := ⟨rfl, fun w _ => by
      subst hc; simp [execOp, convert, underlying, program, hx, hT.u, hu.u, Conv.intToInt, Sem.run, bind, Sem.bind, pure]⟩

/- comparisons -/
theorem q_lss (hx : ρ.ev x = .int q a) (hy : ρ.ev y = .int q b) : Qr C ρ S (.binOp .lss T x y T') ty (.bool (decide (a < b))) := ⟨rfl, fun w _ => by simp [go_sem, hx, hy]⟩
theorem q_leq (hx : ρ.ev x = .int q a) (hy : ρ.ev y = .int q b) : Qr C ρ S (.binOp .leq T x y T') ty (.bool (decide (a ≤ b))) := ⟨rfl, fun w _ => by simp [go_sem, hx, hy]⟩
theorem q_gtr (hx : ρ.ev x = .int q a) (hy : ρ.ev y = .int q b) : Qr C ρ S (.binOp .gtr T x y T') ty (.bool (decide (b < a))) := ⟨rfl, fun w _ => by simp [go_sem, hx, hy]⟩
theorem q_geq (hx : ρ.ev x = .int q a) (hy : ρ.ev y = .int q b) : Qr C ρ S (.binOp .geq T x y T') ty (.bool (decide (b ≤ a))) := ⟨rfl, fun w _ => by simp [go_sem, hx, hy]⟩
theorem q_eql (hx : ρ.ev x = .int q a) (hy : ρ.ev y = .int q b) : Qr C ρ S (.binOp .eql T x y T') ty (.bool (decide (a = b))) := ⟨rfl, fun w _ => by
      have e : (a == b) = decide (a = b) := rfl
      simp [go_sem, hx, hy, e]⟩
theorem q_neq (hx : ρ.ev x = .int q a) (hy : ρ.ev y = .int q b) : Qr C ρ S (.binOp .neq T x y T') ty (.bool (decide (a ≠ b))) := ⟨rfl, fun w _ => by
      have e : (a != b) = decide (a ≠ b) := by by_cases h : a = b <;> simp [h]
      simp [go_sem, hx, hy, e]⟩
theorem run_equal_bool {P : Program} {T : TypeId} [hu : Bl P T] (a b : Bool) (w : World) : (Op.equal T (.bool a) (.bool b)).run P w = .ok (a == b) w := by
  unfold Op.equal
  rw [show Op.maxDepth = 9999 + 1 from rfl]
  unfold Op.equalIn
  simp [underlying, program, hu.u, Sem.run, bind, Sem.bind, pure]
theorem q_beq {a b : Bool} [hu : Bl C.P T] (hx : ρ.ev x = .bool a) (hy : ρ.ev y = .bool b) : Qr C ρ S (.binOp .eql T x y T') ty (.bool (a == b)) := ⟨rfl, fun w _ => by
      have := run_equal_bool (P := C.P) (T := T) a b w
      simp only [go_sem, hx, hy]
      simp [binOp, this, Sem.run_bind, Result.andThen, Sem.run, pure]⟩
theorem q_bne {a b : Bool} [hu : Bl C.P T] (hx : ρ.ev x = .bool a) (hy : ρ.ev y = .bool b) : Qr C ρ S (.binOp .neq T x y T') ty (.bool (!(a == b))) := ⟨rfl, fun w _ => by
      have := run_equal_bool (P := C.P) (T := T) a b w
      simp only [go_sem, hx, hy]
      simp [binOp, this, Sem.run_bind, Result.andThen, Sem.run, pure]⟩
theorem q_ex {vs : List Value} {i : Nat} {v : Value} (hx : ρ.ev x = .tuple ⟨vs⟩) (hv : vs[i]? = some v) : Qr C ρ S (.extract x i) ty v := ⟨rfl, fun w _ => by
      simp [execOp, Instr.extract, hx, hv, Sem.run, bind, Sem.bind, pure]⟩
end ints

section addresses
variable {x y : Operand} {T T' : TypeId} {b o : Nat}
theorem q_fa {f off : Nat} [hf : Fo C.P T f off] (hx : ρ.ev x = .pointer (some ⟨b, o, none⟩)) : Qr C ρ S (.fieldAddr T x f) ty (.pointer (some ⟨b, o + off, none⟩)) := ⟨rfl, fun w _ => by
      obtain ⟨fs, fd, i, h1, h2, h3, h4, h5⟩ := hf.u
      have ha : (Addr.mk b o none).add off = ⟨b, o + off, none⟩ := by unfold Addr.add; split <;> simp_all
      simp [execOp, Instr.fieldAt, Instr.sureAddr, underlying, program, hx, h1, h2, fieldPlace, sizeOf, typeInfo, h4, Sem.run, bind, Sem.bind, pure]
      simp at h5
      simp [h5, h3, ha, Sem.run, Sem.bind]⟩
theorem q_nil {a : Addr} (hx : ρ.ev x = .pointer (some a)) : Qr C ρ S (.nilCheck x) ty (.pointer (some a)) := ⟨rfl, fun w _ => by
      simp [execOp, hx, Sem.run, bind, Sem.bind, pure]⟩
/-- An element's address. -/
theorem q_ia {e sz n c : Nat} {q : IntKind} {j : Int} [hu : Sl C.P T e] [hs : Sz C.P e sz] (hx : ρ.ev x = .slice (some ⟨b, o, none⟩) n c) (hy : ρ.ev y = .int q j) (hj : 0 ≤ j ∧ j < (n : Int)) : Qr C ρ S (.indexAddr T x y) ty (.pointer (some ⟨b, o + j.toNat * sz, none⟩)) := ⟨rfl, fun w _ => by
      obtain ⟨i, h1, h2⟩ := hs.i
      have ha : (Addr.mk b o none).add (j.toNat * sz) = ⟨b, o + j.toNat * sz, none⟩ := by unfold Addr.add; split <;> simp_all
      simp [execOp, Instr.indexAt, asIntOf, underlying, program, hx, hy, hu.u, hj, sizeOf, typeInfo, h1, h2, ha, Sem.run, bind, Sem.bind, pure]⟩
/-- An element's address in a variable that is an array. -/
theorem q_ja {e sz n : Nat} {q : IntKind} {j : Int} [hs : Sz C.P e sz] (hu : C.P.underlying T = some (.array n e)) (hx : ρ.ev x = .pointer (some ⟨b, o, none⟩)) (hy : ρ.ev y = .int q j) (hj : 0 ≤ j ∧ j < (n : Int)) : Qr C ρ S (.indexAddr T x y) ty (.pointer (some ⟨b, o + j.toNat * sz, none⟩)) := ⟨rfl, fun w _ => by
      obtain ⟨i, h1, h2⟩ := hs.i
      have ha : (Addr.mk b o none).add (j.toNat * sz) = ⟨b, o + j.toNat * sz, none⟩ := by unfold Addr.add; split <;> simp_all
      simp [execOp, Instr.indexAt, Instr.sureAddr, asIntOf, underlying, program, hx, hy, hu, hj, sizeOf, typeInfo, h1, h2, ha, Sem.run, bind, Sem.bind, pure]⟩
end addresses
end Go.Z
end
section
set_option linter.unusedSimpArgs false
set_option linter.unusedVariables false
/- The calculus beneath the proofs: the rules for loads, stores, new variables and calls. No program is named here. -/
set_option linter.unusedSimpArgs false
set_option linter.unusedVariables false
namespace Go.Z
open Go Go.RowKit

variable {C : Cfg} {Q Q' : Post} {ds : List Deferred} {ρ : Env} {h : Heap} {L : Own} {ops : Array Oper} {rest : List Oper}
variable {d : Nat} {ty : TypeId} {pos : String} {after : Array Edge} {S : World → Prop}

/-- From place o on the list reads vs. -/
def LookN (l : List Value) (o : Nat) : List Value → Prop
  | [] => True
  | v :: vs => l[o]? = some v ∧ LookN l (o + 1) vs
/-- vs is laid from place o on. -/
def setN (l : List Value) (o : Nat) : List Value → List Value
  | [] => l
  | v :: vs => setN (l.set o v) (o + 1) vs

theorem LookN.self : ∀ (p l : List Value), LookN (p ++ l) p.length l
  | _, [] => trivial
  | p, v :: vs => ⟨by simp, by have := LookN.self (p ++ [v]) vs; simpa using this⟩
theorem LookN.all (l : List Value) : LookN l 0 l := by simpa using LookN.self [] l
theorem LookN.get {l : List Value} : ∀ {vs : List Value} {o : Nat}, LookN l o vs → ∀ j v, vs[j]? = some v → l[o + j]? = some v
  | [], _, _, j, v, hv => by simp at hv
  | x :: vs, o, ⟨h1, h2⟩, 0, v, hv => by simp at hv; subst hv; simpa using h1
  | x :: vs, o, ⟨h1, h2⟩, j + 1, v, hv => by
    have := LookN.get h2 j v (by simpa using hv)
    rw [show o + (j + 1) = o + 1 + j by omega]; exact this

theorem cell_of {w : World} {b o : Nat} {l : List Value} {T : TypeId} {fr : Nat × Nat} {v : Value} (hb : w.heap[b]? = some (.cells ⟨l⟩ T fr)) (hv : l[o]? = some v) : w.cell? ⟨b, o, none⟩ = some v := by
  simp [World.cell?, hb, hv]
theorem add_none (b o n : Nat) : (Addr.mk b o none).add n = ⟨b, o + n, none⟩ := by unfold Addr.add; split <;> simp_all

theorem run_loadFrom {P : Program} {w : World} {b o : Nat} {l : List Value} {T : TypeId} {fr : Nat × Nat} (hb : w.heap[b]? = some (.cells ⟨l⟩ T fr)) :
    ∀ (vs : List Value) (i : Nat) (acc : Array Value), LookN l (o + i) vs → (loadCellsFrom ⟨b, o, none⟩ i vs.length acc).run P w = .ok (acc ++ ⟨vs⟩) w
  | [], i, acc, _ => by simp [loadCellsFrom, Sem.run, pure]
  | v :: vs, i, acc, ⟨h1, h2⟩ => by
    have hc := cell_of hb h1
    have ih := run_loadFrom (P := P) hb vs (i + 1) (acc.push v) h2
    simp only [List.length_cons, loadCellsFrom, load, add_none, bind, Sem.bind, Sem.run, hc, ih]
    simp
theorem run_loadCells {P : Program} {w : World} {b o : Nat} {l vs : List Value} {T : TypeId} {fr : Nat × Nat} (hb : w.heap[b]? = some (.cells ⟨l⟩ T fr)) (hl : LookN l o vs) :
    (loadCells ⟨b, o, none⟩ vs.length).run P w = .ok ⟨vs⟩ w := by
  rw [loadCells, run_loadFrom hb vs 0 #[] hl]; simp

theorem run_loadVar {P : Program} {w : World} {b o : Nat} {l : List Value} {T T' : TypeId} {fr : Nat × Nat} {v : Value} (hp : Pr P T) (hb : w.heap[b]? = some (.cells ⟨l⟩ T' fr)) (hv : l[o]? = some v) :
    (loadVar T ⟨b, o, none⟩).run P w = .ok v w := by
  simp [loadVar, run_isAgg hp, Result.andThen, load, Sem.run, cell_of hb hv]
theorem run_sizeOf {P : Program} {T n : Nat} {w : World} (hs : ∃ i, P.info? T = some i ∧ i.size = n) : (sizeOf T).run P w = .ok n w := by
  obtain ⟨i, h1, h2⟩ := hs
  simp [sizeOf, typeInfo, program, Sem.run, bind, pure, Sem.bind, h1, h2]
theorem run_loadVarA {P : Program} {w : World} {b o : Nat} {l vs : List Value} {T T' : TypeId} {fr : Nat × Nat} (hp : Ag1 P T vs.length) (hb : w.heap[b]? = some (.cells ⟨l⟩ T' fr)) (hv : LookN l o vs) :
    (loadVar T ⟨b, o, none⟩).run P w = .ok (.agg ⟨vs⟩) w := by
  simp [loadVar, run_isAgg1 hp, run_sizeOf hp.i, Result.andThen, Sem.run, run_loadCells hb hv]

/-- One cell, or what a struct's cells cannot be. -/
def plain : Value → Bool
  | .agg _ => false
  | .tuple _ => false
  | _ => true

theorem heap_setCell_same {w : World} {b o : Nat} {l : List Value} {T : TypeId} {v : Value} (hb : w.heap[b]? = some (row T l)) : (w.setCell ⟨b, o, none⟩ v).heap[b]? = some (row T (l.set o v)) := by
  obtain ⟨hlt, he⟩ := Array.getElem?_eq_some_iff.1 hb
  simp only [World.setCell]
  rw [Array.getElem?_modify]
  simp [hb]
theorem run_storeCells {P : Program} : ∀ (vs : List Value) (i : Nat) {w : World} {b o : Nat} {l : List Value} {T : TypeId}, w.heap[b]? = some (row T l) → o + i + vs.length ≤ l.length → (∀ v ∈ vs, plain v = true) →
    ∃ w', (storeCells ⟨b, o, none⟩ vs i).run P w = .ok () w' ∧ w'.os = w.os ∧ w'.tape = w.tape ∧ w'.output = w.output ∧ w'.heap.size = w.heap.size ∧ w'.heap[b]? = some (row T (setN l (o + i) vs)) ∧ ∀ k, k ≠ b → w'.heap[k]? = w.heap[k]?
  | [], i, w, b, o, l, T, hb, _, _ => ⟨w, by simp [storeCells, Sem.run, pure], rfl, rfl, rfl, rfl, hb, fun _ _ => rfl⟩
  | v :: vs, i, w, b, o, l, T, hb, hlen, hpl => by
    simp only [List.length_cons] at hlen
    have hlt : o + i < l.length := by omega
    have hc : w.cell? ⟨b, o + i, none⟩ = some l[o + i] := cell_of hb (by simp [hlt])
    have hf : w.frozen? ⟨b, o + i, none⟩ = false := by simp [World.frozen?, hb]
    have hb2 := heap_setCell_same (o := o + i) (v := v) hb
    obtain ⟨w', h1, h2, h3, h4, h5, h6, h7⟩ := run_storeCells (P := P) vs (i + 1) (o := o) hb2 (by simp; omega) (fun u hu => hpl u (List.mem_cons_of_mem _ hu))
    refine ⟨w', ?_, h2, h3, h4, by rw [h5]; simp [World.setCell], h6, fun k hk => (h7 k hk).trans (Below.heap_setCell _ _ _ _ hk)⟩
    have hp := hpl v (List.mem_cons_self ..)
    have : (store ((Addr.mk b o none).add i) v).run P w = .ok () (w.setCell ⟨b, o + i, none⟩ v) := by
      rw [add_none]
      cases v <;> simp_all [store, Sem.run, plain]
    simp [storeCells, Sem.run_bind, this, Result.andThen, h1]

/-- Block b among the owned ones: what it holds, and the owned ones with something else in its place. -/
class At (L : Own) (b : Nat) (o : outParam Obj) (f : outParam (Obj → Own)) : Prop where
  e : ∃ L1 L2, L = L1 ++ (b, o) :: L2 ∧ ∀ o', f o' = L1 ++ (b, o') :: L2
instance At.head {L : Own} {b : Nat} {o : Obj} : At ((b, o) :: L) b o (fun o' => (b, o') :: L) := ⟨[], L, rfl, fun _ => rfl⟩
instance At.tail {L : Own} {p : Nat × Obj} {b : Nat} {o : Obj} {f : Obj → Own} [a : At L b o f] : At (p :: L) b o (fun o' => p :: f o') := by
  obtain ⟨L1, L2, h1, h2⟩ := a.e
  exact ⟨p :: L1, L2, by rw [h1]; rfl, fun o' => by rw [h2]; rfl⟩
instance At.app {L M : Own} {b : Nat} {o : Obj} {f : Obj → Own} [a : At L b o f] : At (M ++ L) b o (fun o' => M ++ f o') := by
  obtain ⟨L1, L2, h1, h2⟩ := a.e
  exact ⟨M ++ L1, L2, by rw [h1, List.append_assoc], fun o' => by rw [h2, List.append_assoc]⟩

theorem At.heap {L : Own} {b : Nat} {o : Obj} {f : Obj → Own} (a : At L b o f) {w0 w : World} {h0 h : Heap} (s : St w0 h0 h L w) : w.heap[b]? = some o := by
  obtain ⟨L1, L2, rfl, _⟩ := a.e
  exact (s.own (b, o) (by simp)).2.1
theorem At.upd {L : Own} {b : Nat} {o : Obj} {f : Obj → Own} (a : At L b o f) {w0 w w' : World} {h0 h : Heap} (s : St w0 h0 h L w) {o' : Obj}
    (hos : w'.os = w.os) (ht : w'.tape = w.tape) (hout : w'.output = w.output) (hsz : w'.heap.size = w.heap.size)
    (hb : w'.heap[b]? = some o') (hne : ∀ k, k ≠ b → w'.heap[k]? = w.heap[k]?) : St w0 h0 h (f o') w' := by
  obtain ⟨L1, L2, rfl, hf⟩ := a.e
  rw [hf]
  exact s.upd hos ht hout hsz hb hne

/-- Frozen cells that are known. -/
def CellN (h : Heap) (b o : Nat) (vs : List Value) : Prop := ∃ l T fr, h b = some (.cells ⟨l⟩ T fr) ∧ LookN l o vs
theorem CellN.mono {h h' : Heap} {b o : Nat} {vs : List Value} (c : CellN h b o vs) (e : Ext h h') : CellN h' b o vs :=
  let ⟨l, T, fr, x, y⟩ := c; ⟨l, T, fr, e.le _ _ x, y⟩

section loads
variable {x y : Operand} {T T' : TypeId} {b o : Nat}
theorem At.heapS {L : Own} {b : Nat} {o : Obj} {f : Obj → Own} (a : At L b o f) {w : World} (s : SS C h L w) : w.heap[b]? = some o := by
  obtain ⟨h', L', _, hl, hs⟩ := s
  obtain ⟨L1, L2, rfl, _⟩ := a.e
  exact (hs.own (b, o) (hl _ (by simp))).2.1
theorem CellN.heapS {h1 : Heap} [e : Ext h1 h] {b o : Nat} {vs : List Value} (c : CellN h1 b o vs) {w : World} (s : SS C h L w) : ∃ l T fr, w.heap[b]? = some (.cells ⟨l⟩ T fr) ∧ LookN l o vs := by
  obtain ⟨h', L', he, _, hs⟩ := s
  obtain ⟨l, T, fr, x, y⟩ := c
  exact ⟨l, T, fr, hs.fro _ _ (he.le _ _ (e.le _ _ x)), y⟩
/-- A cell of an owned block. -/
theorem q_ld {l : List Value} {fr : Nat × Nat} {v : Value} {f : Obj → Own} [hp : Pr C.P T] (hx : ρ.ev x = .pointer (some ⟨b, o, none⟩)) (a : At L b (.cells ⟨l⟩ T' fr) f) (hv : l[o]? = some v) : Qr C ρ (SS C h L) (.load T x) ty v :=
  ⟨rfl, fun w hs => by simp [execOp, hx, Instr.loadAt, Instr.sureAddr, run_loadVar hp (a.heapS hs) hv, Sem.run_bind, Result.andThen, Sem.run, pure]⟩
/-- A struct or array in an owned block. -/
theorem q_lda {l vs : List Value} {fr : Nat × Nat} {f : Obj → Own} [hp : Ag1 C.P T vs.length] (hx : ρ.ev x = .pointer (some ⟨b, o, none⟩)) (a : At L b (.cells ⟨l⟩ T' fr) f) (hv : LookN l o vs) : Qr C ρ (SS C h L) (.load T x) ty (.agg ⟨vs⟩) :=
  ⟨rfl, fun w hs => by simp [execOp, hx, Instr.loadAt, Instr.sureAddr, run_loadVarA hp (a.heapS hs) hv, Sem.run_bind, Result.andThen, Sem.run, pure]⟩
/-- A variable that is a struct or array, whole. -/
theorem q_ldw {l : List Value} {fr : Nat × Nat} {f : Obj → Own} {n : Nat} [hp : Ag1 C.P T n] (hx : ρ.ev x = .pointer (some ⟨b, 0, none⟩)) (a : At L b (.cells ⟨l⟩ T' fr) f) (hv : l.length = n) : Qr C ρ (SS C h L) (.load T x) ty (.agg ⟨l⟩) := by
  subst hv
  exact q_lda hx a (LookN.all l)
/-- A frozen cell. -/
theorem q_ldf {h1 : Heap} {v : Value} [hp : Pr C.P T] [e : Ext h1 h] (hx : ρ.ev x = .pointer (some ⟨b, o, none⟩)) (hv : CellN h1 b o [v]) : Qr C ρ (SS C h L) (.load T x) ty v :=
  ⟨rfl, fun w hs => by
    obtain ⟨l, T', fr, hb, hl⟩ := hv.heapS hs
    simp [execOp, hx, Instr.loadAt, Instr.sureAddr, run_loadVar hp hb hl.1, Sem.run_bind, Result.andThen, Sem.run, pure]⟩
theorem q_ldfa {h1 : Heap} {vs : List Value} [hp : Ag1 C.P T vs.length] [e : Ext h1 h] (hx : ρ.ev x = .pointer (some ⟨b, o, none⟩)) (hv : CellN h1 b o vs) : Qr C ρ (SS C h L) (.load T x) ty (.agg ⟨vs⟩) :=
  ⟨rfl, fun w hs => by
    obtain ⟨l, T', fr, hb, hl⟩ := hv.heapS hs
    simp [execOp, hx, Instr.loadAt, Instr.sureAddr, run_loadVarA hp hb hl, Sem.run_bind, Result.andThen, Sem.run, pure]⟩
end loads

section stores
variable {x y : Operand} {T T' : TypeId} {b o : Nat}
/-- A store of the value whose cells are vs. -/
theorem o_st {l vs : List Value} {v : Value} {f : Obj → Own} (hs : ∃ i, C.P.info? T = some i ∧ i.size = vs.length) (hx : ρ.ev x = .pointer (some ⟨b, o, none⟩)) (hy : ρ.ev y = v) (hv : v.cells = ⟨vs⟩) (hpl : ∀ u ∈ vs, plain u = true)
    (a : At L b (row T' l) f) (hlen : o + vs.length ≤ l.length) (k : JL C ops Q rest ds ρ h (f (row T' (setN l o vs)))) :
    JL C ops Q (⟨none, .store T x y, ty, pos, after, none⟩ :: rest) ds ρ h L :=
  JL.unit rfl rfl rfl fun w hst => by
    obtain ⟨w', h1, h2, h3, h4, h5, h6, h7⟩ := run_storeCells (P := C.P) vs 0 (o := o) (a.heap hst) (by omega) hpl
    refine ⟨h, _, w', ?_, a.upd hst h2 h3 h4 h5 h6 h7, k⟩
    have hz : (Instr.storeAt T (ρ.ev x) (ρ.ev y)).run C.P w = .ok () w' := by
      rw [hx, hy]
      simp [Instr.storeAt, Instr.sureAddr, storeVar, hv, run_sizeOf hs, Sem.run_bind, Result.andThen, Sem.run, pure, h1]
    simp [execOp, hz, Sem.run_bind, Result.andThen, Sem.run, pure]
/-- Of one cell. -/
theorem o_st1 {l : List Value} {v : Value} {f : Obj → Own} [hs : Sz C.P T 1] (hx : ρ.ev x = .pointer (some ⟨b, o, none⟩)) (hy : ρ.ev y = v) (hpl : plain v = true)
    (a : At L b (row T' l) f) (hlen : o < l.length) (k : JL C ops Q rest ds ρ h (f (row T' (l.set o v)))) :
    JL C ops Q (⟨none, .store T x y, ty, pos, after, none⟩ :: rest) ds ρ h L :=
  o_st (vs := [v]) hs.i hx hy (by cases v <;> first | rfl | cases hpl) (by simpa using hpl) a (by simp; omega) k
/-- A whole variable that is a struct or array. -/
theorem o_stw {l vs : List Value} {f : Obj → Own} {n : Nat} [hs : Sz C.P T n] (hx : ρ.ev x = .pointer (some ⟨b, 0, none⟩)) (hy : ρ.ev y = .agg ⟨vs⟩) (hpl' : vs.all plain = true)
    (a : At L b (row T' l) f) (hl : l.length = n) (hv : vs.length = n) (k : JL C ops Q rest ds ρ h (f (row T' vs))) :
    JL C ops Q (⟨none, .store T x y, ty, pos, after, none⟩ :: rest) ds ρ h L := by
  have hpl : ∀ u ∈ vs, plain u = true := List.all_eq_true.1 hpl'
  have key : ∀ (vs p l : List Value), l.length = p.length + vs.length → (∀ j, j < p.length → l[j]? = p[j]?) → setN l p.length vs = p ++ vs := by
    intro vs
    induction vs with
    | nil =>
      intro p l hl hp
      simp only [setN, List.append_nil]
      refine List.ext_getElem? fun j => ?_
      rcases Nat.lt_or_ge j p.length with hj | hj
      · exact hp j hj
      · simp at hl; rw [List.getElem?_eq_none (by omega), List.getElem?_eq_none hj]
    | cons v vs ih =>
      intro p l hl hp
      have := ih (p ++ [v]) (l.set p.length v) (by simp at hl ⊢; omega) (fun j hj => by
        simp at hj
        by_cases e : j = p.length
        · have hlt : p.length < l.length := by rw [hl]; simp
          subst e; simp [hlt]
        · rw [List.getElem?_set_ne (by omega), hp j (by omega)]; rw [List.getElem?_append_left (by omega)])
      simpa [setN] using this
  have := key vs [] l (by simp only [List.length_nil]; omega) (by simp)
  refine o_st (vs := vs) (by obtain ⟨i, h1, h2⟩ := hs.i; exact ⟨i, h1, by omega⟩) hx hy rfl hpl a (by omega) ?_
  simpa using this ▸ k
end stores

section news
variable {x y : Operand} {T T' : TypeId}
theorem run_newRow {P : Program} {w : World} (T : TypeId) (cs : Array Value) : (newRow T cs).run P w = .ok ⟨w.heap.size, 0, none⟩ (w.alloc (.cells cs T)) := rfl
/-- A new variable, zero. -/
theorem o_al {z : List Value} [hz : Zv C.P T z] (k : ∀ b, JL C ops Q rest ds (ρ.set d (.pointer (some ⟨b, 0, none⟩))) h ((b, row T z) :: L)) (hn : Nat.blt d C.n = true := by rfl) :
    JL C ops Q (⟨some d, .alloc T, ty, pos, after, none⟩ :: rest) ds ρ h L :=
  JL.val rfl rfl rfl hn fun w hs => by
    obtain ⟨i, v, h1, h2, h3⟩ := hz.i
    refine ⟨_, h, _, w.alloc (row T z), ?_, hs.alloc _, k _⟩
    have hz : (zeroValue T).run C.P w = .ok v w := by simp [zeroValue, typeInfo, program, h1, h2, Sem.run_bind, Result.andThen, Sem.run, pure]
    simp [execOp, Instr.alloc, hz, h3, newVar, run_newRow, Sem.run_bind, Result.andThen, Sem.run, pure]
/-- A new variable that holds a value. -/
theorem o_bx {v : Value} {vs : List Value} (hx : ρ.ev x = v) (hv : v.cells = ⟨vs⟩) (k : ∀ b, JL C ops Q rest ds (ρ.set d (.pointer (some ⟨b, 0, none⟩))) h ((b, row T vs) :: L)) (hn : Nat.blt d C.n = true := by rfl) :
    JL C ops Q (⟨some d, .box T x, ty, pos, after, none⟩ :: rest) ds ρ h L :=
  JL.val rfl rfl rfl hn fun w hs => by
    refine ⟨_, h, _, w.alloc (row T vs), ?_, hs.alloc _, k _⟩
    simp [execOp, Instr.box, hx, hv, newVar, run_newRow, Sem.run_bind, Result.andThen, Sem.run, pure]
end news

/-! ### Calls -/
theorem JL.enter {o : Oper} {f : FuncId} {args : Array Value} (hg : o.guard = none) (hc : calm o.op = true) {d : Nat} (hd : o.dst = some d) (hn : Nat.blt d C.n = true)
    (run : ∀ w, St C.w0 C.h0 h L w → (execOp ρ.ev o).run C.P w = .ok (.enter f args) w)
    (hcall : ∀ w, St C.w0 C.h0 h L w → Calls C.P f args w fun e w' => ∃ v h' L', e = .returned v ∧ St C.w0 C.h0 h' L' w' ∧ JL C ops Q rest ds (ρ.set d v) h' L') :
    JL C ops Q (o :: rest) ds ρ h L := JL.step hg hc fun a w ha hs => by
  rw [run w hs, Oper.uponIn_enter]
  refine ⟨fun hx => (by simp [fen] at hx), ?_⟩
  have hin : CallsIn Fence.wide (0 - 1) C.P f args w _ := callsIn_wide.2 (hcall w hs)
  refine ⟨trivial, fun cs hr => ?_⟩
  obtain ⟨e, w', fr, ⟨v, h', L', rfl, hst, hk⟩, hsteps, hfn, hl⟩ := hin.2 cs (room_wide _)
  refine ⟨.returned v, w', fr, ?_, hsteps, hfn, hl⟩
  show wpL C.r C.P ops (lift C Q) rest (a.put o.dst v) w'
  rw [hd]
  exact hk _ _ (ha.put hn v) hst

theorem Fn.use {P : Program} {f : FuncId} {args : Array Value} {h : Heap} {R : Value → Heap → Prop} (hf : Fn P f args h R) {w0 w : World} {h0 : Heap} {L : Own} (s : St w0 h0 h L w) :
    Calls P f args w fun e w' => ∃ v h', e = .returned v ∧ Step h h' ∧ St w0 h0 h' L w' ∧ R v h' := by
  refine (hf w s.fro).mono ?_
  rintro e w' ⟨v, h', rfl, hb, he, hold, hfro, hR⟩
  refine ⟨v, h', rfl, he.toStep, ⟨s.below.trans (hb.mono s.below.size), fun b o x => he.le b o (s.ge b o x), fun b hb' => (hold b (Nat.lt_of_lt_of_le hb' s.below.size)).trans (s.old b hb'), hfro, fun p hp => ?_, s.nd⟩, hR⟩
  have hlt := s.ownLt hp
  exact ⟨(s.own p hp).1, (hb.block _ hlt).trans (s.own p hp).2.1, (hold _ hlt).trans (s.own p hp).2.2⟩

section calls
variable {f : FuncId} {R : Value → Heap → Prop}
theorem run_resolve_func {P : Program} {w : World} {ρ : Operand → Value} {xs : List Operand} {ts : Array TypeId} {ty : TypeId} [he : Ent P f] :
    (do let d ← resolve ρ { callee := .value (.func f), args := ⟨xs⟩, argTypes := ts } ty; invoke d.target d.args : Sem Next).run P w = .ok (.enter f ⟨xs.map ρ⟩) w ∨ ρ (.func f) ≠ .func (.func f) #[] #[] := by
  by_cases hr : ρ (.func f) = .func (.func f) #[] #[]
  · left
    simp [resolve, Deferred.ofValue, hr, invoke, he.e, Sem.run_bind, Result.andThen, Sem.run, pure]
  · exact .inr hr
/-- A call of a function. -/
theorem o_call {xs : List Operand} {ts : Array TypeId} [he : Ent C.P f] (hf : Fn C.P f (List.toArray (xs.map ρ.ev)) h R)
    (k : ∀ v h', Step h h' → R v h' → JL C ops Q rest ds (ρ.set d v) h' L) (hn : Nat.blt d C.n = true := by rfl) :
    JL C ops Q (⟨some d, .call { callee := .value (.func f), args := ⟨xs⟩, argTypes := ts }, ty, pos, after, none⟩ :: rest) ds ρ h L :=
  JL.enter rfl rfl rfl hn (fun w _ => by
      have := run_resolve_func (P := C.P) (w := w) (ρ := ρ.ev) (f := f) (xs := xs) (ts := ts) (ty := ty)
      rcases this with h | h
      · simpa [execOp] using h
      · exact absurd rfl h) fun w hs => (hf.use hs).mono fun e w' ⟨v, h', a, b, c, r⟩ => ⟨v, h', L, a, c, k v h' b r⟩
end calls
end Go.Z
end
section
set_option linter.unusedSimpArgs false
set_option linter.unusedVariables false
/- The calculus beneath the proofs: results of a function; slices, frozen and owned; make, append, copy, slice expressions. No program is named here. -/
set_option linter.unusedSimpArgs false
set_option linter.unusedVariables false
namespace Go.Z
open Go Go.RowKit

variable {C : Cfg} {Q Q' : Post} {ds : List Deferred} {ρ : Env} {h : Heap} {L : Own} {ops : Array Oper} {rest : List Oper}
variable {d : Nat} {ty : TypeId} {pos : String} {after : Array Edge}

/-! ### Results -/
/-- What a result variable gives. -/
inductive ResV (P : Program) (ρ : Env) (L : Own) : List ResultVar → List Value → Prop
  | nil : ResV P ρ L [] []
  | tmp {t : Tmp} {v : Value} {rs : List ResultVar} {vs : List Value} (e : ρ t = v) (r : ResV P ρ L rs vs) : ResV P ρ L (.tmp t :: rs) (v :: vs)
  | agg {t : Tmp} {T T' : TypeId} {b : Nat} {l : List Value} {f : Obj → Own} {fr : Nat × Nat} {rs : List ResultVar} {vs : List Value} (e : ρ t = .pointer (some ⟨b, 0, none⟩)) (a : At L b (.cells ⟨l⟩ T' fr) f)
      (g : Ag1 P T l.length) (r : ResV P ρ L rs vs) : ResV P ρ L (.cell t T :: rs) (.agg ⟨l⟩ :: vs)
  | one {t : Tmp} {T T' : TypeId} {b : Nat} {v : Value} {f : Obj → Own} {fr : Nat × Nat} {rs : List ResultVar} {vs : List Value} (e : ρ t = .pointer (some ⟨b, 0, none⟩)) (a : At L b (.cells ⟨[v]⟩ T' fr) f)
      (g : Pr P T) (r : ResV P ρ L rs vs) : ResV P ρ L (.cell t T :: rs) (v :: vs)

def pack : List Value → Value
  | [v] => v
  | vs => .tuple ⟨vs⟩

def resSem (tmps : Array Value) : ResultVar → Sem Value
  | .tmp t => Pure.pure (tmps.getD t undef)
  | .cell a t => do loadVar t (← asAddr (tmps.getD a undef))

theorem resV_run {P : Program} {ρ : Env} {L : Own} {n : Nat} {w0 w : World} {h0 h : Heap} {a : Act} {ds : List Deferred} (ha : Ag n ds a ρ) (hs : St w0 h0 h L w) :
    ∀ {rs : List ResultVar} {vs : List Value}, ResV P ρ L rs vs → (rs.mapM (resSem a.tmps)).run P w = .ok vs w := by
  intro rs vs r
  induction r with
  | nil => simp [Sem.run, Pure.pure]
  | tmp e r ih =>
    have hg := ha.get
    simp only [List.mapM_cons, resSem, hg, e]
    simp [Sem.run_bind, Sem.run, Pure.pure, Result.andThen, ih]
  | agg e b g r ih =>
    have hg := ha.get
    have hl := run_loadVarA g (b.heap hs) (LookN.all _)
    simp only [List.mapM_cons, resSem, hg, e]
    simp [Sem.run_bind, Sem.run, Pure.pure, Result.andThen, ih, asAddr, hl]
  | one e b g r ih =>
    have hg := ha.get
    have hl := run_loadVar g (b.heap hs) (o := 0) rfl
    simp only [List.mapM_cons, resSem, hg, e]
    simp [Sem.run_bind, Sem.run, Pure.pure, Result.andThen, ih, asAddr, hl]

theorem results_eq {fn : Func} {rs : List ResultVar} (hr : fn.results = ⟨rs⟩) (tmps : Array Value) : results fn tmps = (do
    let vs ← rs.toArray.mapM (resSem tmps)
    Pure.pure (if h : vs.size = 1 then vs[0] else .tuple vs) : Sem Value) := by
  unfold results
  rw [hr]
  rfl

theorem RetR.of {fn : Func} {rs : List ResultVar} {vs : List Value} (hr : fn.results = ⟨rs⟩) (r : ResV C.P ρ L rs vs) : RetR C fn ρ h L (pack vs) := fun a w ds ha hs => by
  have h1 := resV_run (P := C.P) ha hs r
  rw [results_eq hr, List.mapM_toArray]
  have : (Sem.run C.P (List.toArray <$> List.mapM (resSem a.tmps) rs) w) = .ok vs.toArray w := by rw [Sem.run_map, h1]; rfl
  rw [Sem.run_bind, this]
  cases vs with
  | nil => simp [Result.andThen, Sem.run, Pure.pure, pack]
  | cons v vs => cases vs <;> simp [Result.andThen, Sem.run, Pure.pure, pack]

/-- The end of a function. -/
theorem ret_ok {fn : Func} {rs : List ResultVar} {vs : List Value} {R : Value → Heap → Prop} {e : Exit} (hr : fn.results = ⟨rs⟩) (r : ResV C.P ρ L rs vs) (hR : R (pack vs) h) (he : e = .normal ∨ e = .ret := by first | exact Or.inr rfl | exact Or.inl rfl) :
    retQ C fn R e [] ρ h L := ⟨he, rfl, _, RetR.of hr r, hR⟩
end Go.Z
end
section
set_option linter.unusedSimpArgs false
set_option linter.unusedVariables false
/- The calculus beneath the proofs: structs and slices that are built, slice expressions, make, append, copy. No program is named here. -/
set_option linter.unusedSimpArgs false
set_option linter.unusedVariables false
namespace Go.Z
open Go Go.RowKit

variable {C : Cfg} {Q Q' : Post} {ds : List Deferred} {ρ : Env} {h : Heap} {L : Own} {ops : Array Oper} {rest : List Oper}
variable {d : Nat} {ty : TypeId} {pos : String} {after : Array Edge} {S : World → Prop}

theorem run_v {P : Program} {s : Sem Value} {w w' : World} {v : Value} (hs : s.run P w = .ok v w') : (do Pure.pure (Next.value (← s)) : Sem Next).run P w = .ok (.value v) w' := by
  rw [Sem.run_bind, hs]; rfl
theorem run_u {P : Program} {s : Sem Unit} {w w' : World} (hs : s.run P w = .ok () w') : (do s; Pure.pure Next.skip : Sem Next).run P w = .ok .skip w' := by
  rw [Sem.run_bind, hs]; rfl
def cellsL : Value → List Value
  | .agg cs => cs.toList
  | v => [v]
theorem cells_cellsL (v : Value) : v.cells = ⟨cellsL v⟩ := by cases v <;> rfl

/-- 'fill' on lists. -/
def fillL (pl : Nat → Option (Nat × Nat)) (l : List Value) : List (Nat × Value) → Option (List Value)
  | [] => some l
  | (i, v) :: r => match pl i with
    | none => none
    | some (off, sz) => bif Nat.beq (cellsL v).length sz && Nat.ble (off + sz) l.length then fillL pl (setN l off (cellsL v)) r else none

theorem length_setN : ∀ (vs l : List Value) (o : Nat), (setN l o vs).length = l.length
  | [], _, _ => rfl
  | v :: vs, l, o => by rw [setN, length_setN vs]; simp
theorem foldl_set (l : List Value) (off : Nat) : ∀ (vs : List Value) (k : Nat), ((vs.zipIdx k).foldl (fun cs (p : Value × Nat) => cs.setIfInBounds (off + p.2) p.1) (Array.mk l)) = Array.mk (setN l (off + k) vs)
  | [], _ => rfl
  | v :: vs, k => by
    simp only [List.zipIdx_cons, List.foldl_cons]
    have := foldl_set (l.set (off + k) v) off vs (k + 1)
    rw [show (Array.mk l).setIfInBounds (off + k) v = Array.mk (l.set (off + k) v) from List.setIfInBounds_toArray l (off + k) v]
    rw [this]; rfl
theorem fill_fillL (pl : Nat → Option (Nat × Nat)) : ∀ (ps : List (Nat × Value)) (l cs : List Value), fillL pl l ps = some cs → Instr.fill pl ⟨l⟩ ps = some ⟨cs⟩
  | [], l, cs, h => by simp [fillL] at h; subst h; rfl
  | (i, v) :: r, l, cs, h => by
    simp only [fillL] at h
    simp only [Instr.fill]
    cases e : pl i with
    | none => rw [e] at h; cases h
    | some q =>
      obtain ⟨off, sz⟩ := q
      rw [e] at h
      simp only at h ⊢
      cases hb : (Nat.beq (cellsL v).length sz && Nat.ble (off + sz) l.length) with
      | false => rw [hb] at h; cases h
      | true =>
        rw [hb] at h
        simp only [cond_true] at h
        simp only [Bool.and_eq_true] at hb
        have h1 := Nat.eq_of_beq_eq_true hb.1
        have h2 := Nat.le_of_ble_eq_true hb.2
        rw [cells_cellsL]
        have hsz : (Array.mk (cellsL v)).size = sz := h1
        rw [hsz]
        rw [if_neg (by simp; omega)]
        have hz : (Array.mk (cellsL v)).zipIdx = ⟨(cellsL v).zipIdx⟩ := by simp
        have := foldl_set l off (cellsL v) 0
        rw [hz]
        rw [← Array.foldl_toList]
        simp only [Nat.add_zero] at this
        rw [this]
        exact fill_fillL pl r _ _ h

/-- A struct type: where its fields lie, and its zero. -/
class StF (P : Program) (T : TypeId) (pl : outParam (List (Nat × Nat))) (z : outParam (List Value)) : Prop where
  run : ∀ w, ∃ fs v, P.underlying T = some (.struct fs) ∧ (fs.mapM (fun f => do Pure.pure (f.offset, ← sizeOf f.type)) : Sem _).run P w = .ok ⟨pl⟩ w ∧ (zeroValue T).run P w = .ok v w ∧ v.cells = ⟨z⟩
def stfCheck (P : Program) (T : TypeId) : Option (List (Nat × Nat)) :=
  match P.underlying T with
  | some (.struct fs) => fs.toList.mapM fun f => (P.info? f.type).map fun i => (f.offset, i.size)
  | _ => none
theorem stf_of {P : Program} {T : TypeId} {pl : List (Nat × Nat)} {z : List Value} (h : stfCheck P T = some pl) (hz : Zv P T z) : StF P T pl z := ⟨fun w => by
  unfold stfCheck at h
  split at h
  · rename_i fs hu
    obtain ⟨i, v, h1, h2, h3⟩ := hz.i
    refine ⟨fs, v, hu, ?_, by simp [zeroValue, typeInfo, program, h1, h2, Sem.run_bind, Result.andThen, Sem.run, Pure.pure], h3⟩
    have key : ∀ (l : List Field) (pl : List (Nat × Nat)), l.mapM (fun f => (P.info? f.type).map fun i => (f.offset, i.size)) = some pl → (l.mapM (fun f => do Pure.pure (f.offset, ← sizeOf f.type)) : Sem _).run P w = .ok pl w := by
      intro l
      induction l with
      | nil => intro pl h; simp at h; subst h; simp [Sem.run, Pure.pure]
      | cons f l ih =>
        intro pl h
        simp only [List.mapM_cons] at h ⊢
        cases e1 : P.info? f.type with
        | none => simp [e1] at h
        | some j =>
          cases e2 : l.mapM (fun f => (P.info? f.type).map fun i => (f.offset, i.size)) with
          | none => simp [e1, e2] at h
          | some r =>
            simp [e1, e2] at h
            subst h
            have hs := run_sizeOf (P := P) (w := w) ⟨j, e1, rfl⟩
            have := ih r e2
            rw [Sem.run_bind, Sem.run_bind, hs]
            simp only [Result.andThen, Sem.run, Pure.pure]
            rw [Sem.run_bind]
            simp only [Pure.pure] at this
            rw [this]
            simp [Result.andThen, Sem.run]
    have := key fs.toList pl h
    rw [← Array.toArray_toList (xs := fs), List.mapM_toArray, Sem.run_map, this]
    rfl
  · cases h⟩

section builds
variable {x y : Operand} {T T' : TypeId}
theorem q_bd {ps : List (Nat × Operand)} {pl : List (Nat × Nat)} {z : List Value} (cells : List Value) [hs : StF C.P T pl z] (hc : fillL (fun i => pl[i]?) z (ps.map fun p => (p.1, ρ.ev p.2)) = some cells) : Qr C ρ S (.build T ⟨ps⟩) ty (.agg ⟨cells⟩) := ⟨rfl, fun w _ => by
    obtain ⟨fs, v, h1, h2, h3, h4⟩ := hs.run w
    have hu : (underlying T).run C.P w = .ok (.struct fs) w := by simp [underlying, program, h1, Sem.run, bind, Sem.bind, Pure.pure]
    have hf := fill_fillL _ _ _ _ hc
    have hp : (fun (x : Nat) => (Array.mk pl)[x]?) = fun i => pl[i]? := by funext i; simp
    have hm : (Array.mk ps).map (fun (p : Nat × Operand) => (p.1, ρ.ev p.2)) = ⟨ps.map fun p => (p.1, ρ.ev p.2)⟩ := by simp
    have hr : (Instr.build T ((Array.mk ps).map (fun (p : Nat × Operand) => (p.1, ρ.ev p.2)))).run C.P w = .ok (.agg ⟨cells⟩) w := by
      rw [hm]
      simp only [Instr.build, bind]
      rw [Sem.run_bind', h3]
      simp only [Result.andThen]
      rw [Sem.run_bind', hu]
      simp only [Result.andThen]
      rw [Sem.run_bind']
      simp only [bind] at h2
      rw [h2]
      simp only [Result.andThen, h4, hp, hf, Sem.run, Pure.pure]
    exact run_v hr⟩

/-- A slice that is written out. -/
theorem und_run {P : Program} {T : TypeId} {u : TypeDesc} {w : World} (h : P.underlying T = some u) : (underlying T).run P w = .ok u w := by
  simp [underlying, program, h, Sem.run, bind, Sem.bind, Pure.pure]
theorem zero_run {P : Program} {T : TypeId} {z : List Value} (hz : Zv P T z) (w : World) : ∃ v, (zeroValue T).run P w = .ok v w ∧ v.cells = ⟨z⟩ := by
  obtain ⟨i, v, h1, h2, h3⟩ := hz.i
  exact ⟨v, by simp [zeroValue, typeInfo, program, h1, h2, Sem.run_bind, Result.andThen, Sem.run, Pure.pure], h3⟩
theorem flat_get (z : List Value) : ∀ (n j : Nat), j < n * z.length → (List.replicate n z).flatten[j]? = z[j % z.length]?
  | 0, j, h => by simp at h
  | n + 1, j, h => by
    rw [List.replicate_succ, List.flatten_cons]
    rcases Nat.lt_or_ge j z.length with hj | hj
    · rw [List.getElem?_append_left hj, Nat.mod_eq_of_lt hj]
    · rw [List.getElem?_append_right hj, flat_get z n (j - z.length) (by rw [Nat.add_mul] at h; omega), ← Nat.mod_eq_sub_mod hj]
theorem flat_len (z : List Value) (n : Nat) : (List.replicate n z).flatten.length = n * z.length := by simp
theorem zeros_eq (z : List Value) (N n : Nat) (hN : N = n * z.length) : (Array.range N).map ((Array.mk z)[· % (Array.mk z).size]!) = ⟨(List.replicate n z).flatten⟩ := by
  subst hN
  apply Array.ext
  · simp
  · intro i h1 h2
    have hi : i < n * z.length := by simpa using h1
    have hz : 0 < z.length := by rcases Nat.eq_zero_or_pos z.length with e | e; (rw [e] at hi; simp at hi); exact e
    have := flat_get z n i hi
    rw [List.getElem?_eq_getElem (by simpa using hi), List.getElem?_eq_getElem (Nat.mod_lt _ hz)] at this
    simp at this ⊢
    rw [this]
    simp [Nat.mod_lt _ hz]
theorem o_bs {ps : List (Nat × Operand)} {n e sz : Nat} {z : List Value} (cells : List Value) [hu : Sl C.P T e] [hs : Sz C.P e sz] [hz : Zv C.P e z] (hN : n * sz ≤ 10000)
    (hc : fillL (fun i => some (i * sz, sz)) ((List.replicate n z).flatten) (ps.map fun p => (p.1, ρ.ev p.2)) = some cells)
    (k : ∀ b, JL C ops Q rest ds (ρ.set d (.slice (some ⟨b, 0, none⟩) n n)) h ((b, row e cells) :: L)) (hn : Nat.blt d C.n = true := by rfl) (hzl : z.length = sz := by rfl) :
    JL C ops Q (⟨some d, .buildSlice T n ⟨ps⟩, ty, pos, after, none⟩ :: rest) ds ρ h L :=
  JL.val rfl rfl rfl hn fun w hst => by
    refine ⟨_, h, _, w.alloc (row e cells), run_v ?_, hst.alloc _, k _⟩
    obtain ⟨v, hz1, hz2⟩ := zero_run hz w
    have hm : (Array.mk ps).map (fun (p : Nat × Operand) => (p.1, ρ.ev p.2)) = ⟨ps.map fun p => (p.1, ρ.ev p.2)⟩ := by simp
    have hf := fill_fillL _ _ _ _ hc
    rw [hm]
    have h24 : ¬ n * sz > 2 ^ 24 := by omega
    simp only [Instr.buildSlice, bind]
    rw [Sem.run_bind', und_run hu.u]
    simp only [Result.andThen]
    rw [Sem.run_bind', run_sizeOf hs.i]
    simp only [Result.andThen, h24, if_false, Pure.pure]
    by_cases h0 : n * sz = 0
    · have hfl : (List.replicate n z).flatten = [] := List.eq_nil_of_length_eq_zero (by rw [flat_len, hzl]; exact h0)
      rw [hfl] at hf
      have e0 : ∀ f : Nat → Value, (Array.range 0).map f = ⟨[]⟩ := fun f => by simp
      simp only [h0, if_true, e0]
      rw [show (Sem.pure (α := Array Value) #[]).bind = fun f => f #[] from rfl]
      simp only [e0, hf]
      rw [Sem.run_bind', run_newRow]
      rfl
    · simp only [h0, if_false]
      rw [Sem.run_bind', hz1]
      simp only [Result.andThen]
      rw [Sem.run_bind']
      simp only [Sem.run, hz2, Result.andThen]
      rw [zeros_eq z (n * sz) n (by rw [hzl]), hf]
      simp only []
      rw [Sem.run_bind', run_newRow]
      rfl
end builds

/-! ### Slices -/
/-- A frozen slice of n elements of sz cells each: its cells. -/
def SlAt (h : Heap) (v : Value) (n sz : Nat) (cs : List Value) : Prop :=
  ∃ p c, v = .slice p n c ∧ n ≤ c ∧ cs.length = n * sz ∧ ((n = 0 ∧ ∀ a, p = some a → True) ∨ ∃ b o, p = some ⟨b, o, none⟩ ∧ CellN h b o cs)
theorem SlAt.mono {h h' : Heap} {v : Value} {n sz : Nat} {cs : List Value} (s : SlAt h v n sz cs) [e : Ext h h'] : SlAt h' v n sz cs := by
  obtain ⟨p, c, h1, h2, h3, h4⟩ := s
  exact ⟨p, c, h1, h2, h3, h4.imp id fun ⟨b, o, x, y⟩ => ⟨b, o, x, y.mono e⟩⟩
theorem SlAt.nil (h : Heap) (sz : Nat) : SlAt h (.slice none 0 0) 0 sz [] := ⟨none, 0, rfl, Nat.le_refl _, by simp, .inl ⟨rfl, fun _ e => by cases e⟩⟩
theorem CellN.cell {h : Heap} {b o : Nat} {cs : List Value} (c : CellN h b o cs) {j : Nat} {v : Value} (hv : cs[j]? = some v) : CellN h b (o + j) [v] := by
  obtain ⟨l, T, fr, h1, h2⟩ := c
  exact ⟨l, T, fr, h1, h2.get j v hv, trivial⟩
theorem LookN.of_get {l : List Value} : ∀ {vs : List Value} {o : Nat}, (∀ j v, vs[j]? = some v → l[o + j]? = some v) → LookN l o vs
  | [], _, _ => trivial
  | v :: vs, o, hg => ⟨by simpa using hg 0 v (by simp), LookN.of_get fun j u hu => by
      have := hg (j + 1) u (by simpa using hu); rw [show o + 1 + j = o + (j + 1) by omega]; exact this⟩
theorem CellN.part {h : Heap} {b o : Nat} {cs ds : List Value} (c : CellN h b o cs) {j : Nat} (hd : ∀ i v, ds[i]? = some v → cs[j + i]? = some v) : CellN h b (o + j) ds := by
  obtain ⟨l, T, fr, h1, h2⟩ := c
  exact ⟨l, T, fr, h1, LookN.of_get fun i v hv => by rw [Nat.add_assoc]; exact h2.get _ _ (hd i v hv)⟩
/-- The cells of element i. -/
theorem SlAt.elem {h : Heap} {p : Option Addr} {n c sz : Nat} {cs : List Value} (s : SlAt h (.slice p n c) n sz cs) {i : Nat} (hi : i < n) :
    ∃ b o, p = some ⟨b, o, none⟩ ∧ CellN h b (o + i * sz) ((cs.drop (i * sz)).take sz) := by
  obtain ⟨p', c', h1, h2, h3, h4⟩ := s
  cases h1
  rcases h4 with ⟨rfl, _⟩ | ⟨b, o, rfl, hc⟩
  · exact absurd hi (Nat.not_lt_zero _)
  · refine ⟨b, o, rfl, hc.part fun j v hv => ?_⟩
    rw [List.getElem?_take] at hv
    split at hv
    · rw [List.getElem?_drop] at hv; exact hv
    · cases hv

section slices
variable {x lo hi mx : Operand} {T e : TypeId} {p : Option Addr} {n c : Nat}
theorem map_add0 (p : Option Addr) (sz : Nat) : p.map (·.add (0 * sz)) = p := by
  rw [Nat.zero_mul]; cases p <;> simp [Addr.add]
theorem run_sb {P : Program} {w : World} {v : Value} {q : IntKind} {j : Int} {y : Nat} {code : BoundsCode} (hv : v = .int q j) (h0 : 0 ≤ j) (h1 : j ≤ (y : Int)) : (Instr.sliceBound v y code).run P w = .ok j.toNat w := by
  subst hv
  simp [Instr.sliceBound, asIntOf, h0, h1, Sem.run, bind, Sem.bind, Pure.pure]
theorem sliceAt_run {P : Program} [hu : Sl P T e] (v : Value) (a b m : Option Value) (w : World) : (Instr.sliceAt T v a b m).run P w = (Instr.slice T v a b m).run P w := by
  simp only [Instr.sliceAt, bind]
  rw [Sem.run_bind', und_run hu.u]
  rfl
theorem slice_run {P : Program} {sz : Nat} [hu : Sl P T e] [hs : Sz P e sz] {a b m : Option Value} {l hh mm : Nat} {w : World}
    (hb : (Instr.sliceBounds true n c a b m).run P w = .ok (l, hh, mm) w) : (Instr.slice T (.slice p n c) a b m).run P w = .ok (.slice (if mm = l then p else p.map (·.add (l * sz))) (hh - l) (mm - l)) w := by
  simp only [Instr.slice, bind]
  rw [Sem.run_bind', und_run hu.u]
  simp only [Result.andThen]
  rw [Sem.run_bind', hb]
  simp only [Result.andThen]
  rw [Sem.run_bind', run_sizeOf hs.i]
  rfl
/-- 's[:hi:mx]' -/
theorem q_slHM {sz : Nat} [hu : Sl C.P T e] [hs : Sz C.P e sz] {q q' : IntKind} {j m : Int} (hx : ρ.ev x = .slice p n c) (hh : ρ.ev hi = .int q j) (hm : ρ.ev mx = .int q' m) (hb : 0 ≤ j ∧ j ≤ m ∧ m ≤ (c : Int)) : Qr C ρ S (.slice T x none (some hi) (some mx)) ty (.slice p j.toNat m.toNat) := ⟨rfl, fun w _ => run_v (by
    simp only [Option.map]
    rw [sliceAt_run, hx]
    rw [slice_run (l := 0) (hh := j.toNat) (mm := m.toNat)]
    · rw [map_add0]; simp
    · simp only [Instr.sliceBounds, bind, hh, hm]
      rw [Sem.run_bind', run_sb rfl (by omega) hb.2.2]
      simp only [Result.andThen]
      rw [Sem.run_bind', run_sb rfl hb.1 (by omega)]
      simp [Result.andThen, Sem.run, Sem.bind, Pure.pure])⟩
/-- 's[:hi]' -/
theorem q_slH {sz : Nat} [hu : Sl C.P T e] [hs : Sz C.P e sz] {q : IntKind} {j : Int} (hx : ρ.ev x = .slice p n c) (hh : ρ.ev hi = .int q j) (hb : 0 ≤ j ∧ j ≤ (c : Int)) : Qr C ρ S (.slice T x none (some hi) none) ty (.slice p j.toNat c) := ⟨rfl, fun w _ => run_v (by
    simp only [Option.map]
    rw [sliceAt_run, hx]
    rw [slice_run (l := 0) (hh := j.toNat) (mm := c)]
    · rw [map_add0]; simp
    · simp only [Instr.sliceBounds, bind, hh]
      simp only [Pure.pure, Sem.bind, if_true]
      rw [Sem.run_bind', run_sb rfl hb.1 hb.2]
      simp [Result.andThen, Sem.run, Sem.bind, Pure.pure])⟩
/-- 's[lo:]' -/
theorem q_slL {sz : Nat} [hu : Sl C.P T e] [hs : Sz C.P e sz] {q : IntKind} {j : Int} (hx : ρ.ev x = .slice p n c) (hl : ρ.ev lo = .int q j) (hb : 0 ≤ j ∧ j ≤ (n : Int)) : Qr C ρ S (.slice T x (some lo) none none) ty (.slice (if c = j.toNat then p else p.map (·.add (j.toNat * sz))) (n - j.toNat) (c - j.toNat)) := ⟨rfl, fun w _ => run_v (by
    simp only [Option.map]
    rw [sliceAt_run, hx]
    refine slice_run (l := j.toNat) (hh := n) (mm := c) ?_
    simp only [Instr.sliceBounds, bind, hl]
    rw [show (Pure.pure c : Sem Nat).bind = fun f => f c from rfl]
    try simp only []
    rw [show (Pure.pure n : Sem Nat).bind = fun f => f n from rfl]
    try simp only [Option.isSome, Bool.false_eq_true, if_false]
    rw [Sem.run_bind', run_sb rfl hb.1 hb.2]
    simp [Result.andThen, Sem.run, Sem.bind, Pure.pure])⟩
/-- 's[lo:hi]' -/
theorem q_slLH {sz : Nat} [hu : Sl C.P T e] [hs : Sz C.P e sz] {q q' : IntKind} {i j : Int} (hx : ρ.ev x = .slice p n c) (hl : ρ.ev lo = .int q i) (hh : ρ.ev hi = .int q' j) (hb : 0 ≤ i ∧ i ≤ j ∧ j ≤ (c : Int)) : Qr C ρ S (.slice T x (some lo) (some hi) none) ty (.slice (if c = i.toNat then p else p.map (·.add (i.toNat * sz))) (j.toNat - i.toNat) (c - i.toNat)) := ⟨rfl, fun w _ => run_v (by
    simp only [Option.map]
    rw [sliceAt_run, hx]
    refine slice_run (l := i.toNat) (hh := j.toNat) (mm := c) ?_
    simp only [Instr.sliceBounds, bind, hl, hh]
    rw [show (Pure.pure c : Sem Nat).bind = fun f => f c from rfl]
    try simp only [Option.isSome, Bool.false_eq_true, if_false, if_true]
    rw [Sem.run_bind', run_sb rfl (by omega) hb.2.2]
    simp only [Result.andThen]
    rw [Sem.run_bind', run_sb rfl hb.1 (by omega)]
    simp [Result.andThen, Sem.run, Sem.bind, Pure.pure])⟩
end slices
theorem SlAt.drop {h : Heap} {p : Option Addr} {n c sz k : Nat} {cs : List Value} (s : SlAt h (.slice p n c) n sz cs) (hk : k ≤ n) :
    SlAt h (.slice (if c = k then p else p.map (·.add (k * sz))) (n - k) (c - k)) (n - k) sz (cs.drop (k * sz)) := by
  obtain ⟨p', c', h1, h2, h3, h4⟩ := s
  cases h1
  refine ⟨_, _, rfl, by omega, by rw [List.length_drop, h3, Nat.sub_mul], ?_⟩
  rcases h4 with ⟨rfl, hp⟩ | ⟨b, o, rfl, hc⟩
  · refine .inl ⟨by omega, fun a ha => ?_⟩
    have hk0 : k = 0 := by omega
    subst hk0
    rw [map_add0] at ha
    simp only [ite_self] at ha
    trivial
  · by_cases e : c = k
    · have hn : n = k := by omega
      refine .inl ⟨by omega, fun a ha => ?_⟩
      trivial
    · refine .inr ⟨b, o + k * sz, by rw [if_neg e]; simp [add_none], hc.part fun i v hv => ?_⟩
      rw [List.getElem?_drop] at hv; exact hv
theorem SlAt.take {h : Heap} {p : Option Addr} {n c sz k m : Nat} {cs : List Value} (s : SlAt h (.slice p n c) n sz cs) (hk : k ≤ n) (hm : k ≤ m) :
    SlAt h (.slice p k m) k sz (cs.take (k * sz)) := by
  obtain ⟨p', c', h1, h2, h3, h4⟩ := s
  cases h1
  refine ⟨_, _, rfl, hm, by rw [List.length_take, h3]; exact Nat.min_eq_left (Nat.mul_le_mul_right _ hk), ?_⟩
  rcases h4 with ⟨rfl, hp⟩ | ⟨b, o, rfl, hc⟩
  · exact .inl ⟨by omega, hp⟩
  · have : CellN h b (o + 0) (cs.take (k * sz)) := hc.part fun i v hv => ?_
    · exact .inr ⟨b, o, rfl, this⟩
    rw [List.getElem?_take] at hv
    split at hv
    · simpa using hv
    · cases hv
end Go.Z
end
section
set_option linter.unusedSimpArgs false
set_option linter.unusedVariables false
/- The calculus beneath the proofs: slices of the activation's own: make, append, copy. No program is named here. -/
set_option linter.unusedSimpArgs false
set_option linter.unusedVariables false
namespace Go.Z
open Go Go.RowKit

variable {C : Cfg} {Q Q' : Post} {ds : List Deferred} {ρ : Env} {h : Heap} {L : Own} {ops : Array Oper} {rest : List Oper}
variable {d : Nat} {ty : TypeId} {pos : String} {after : Array Edge}

theorem St.of {w0 : World} {h0 h : Heap} {L L' : Own} {w : World} (s : St w0 h0 h L w) (hm : ∀ p ∈ L', p ∈ L) (nd : (L'.map (·.1)).Nodup) : St w0 h0 h L' w :=
  ⟨s.below, s.ge, s.old, s.fro, fun p hp => s.own p (hm p hp), nd⟩
theorem St.sub {w0 : World} {h0 h : Heap} {L L' : Own} {w : World} (s : St w0 h0 h L w) (hs : L'.Sublist L) : St w0 h0 h L' w :=
  s.of (fun p hp => hs.subset hp) ((hs.map _).nodup s.nd)
theorem J.sub {c : Code} {L' : Own} (hs : L'.Sublist L) (hj : J C c Q ds ρ h L') : J C c Q ds ρ h L := fun a w ha hst => hj a w ha (hst.sub hs)
theorem JL.sub {L' : Own} (hs : L'.Sublist L) (hj : JL C ops Q rest ds ρ h L') : JL C ops Q rest ds ρ h L := fun a w ha hst => hj a w ha (hst.sub hs)
theorem JL.perm {L' : Own} (hp : L.Perm L') (hj : JL C ops Q rest ds ρ h L') : JL C ops Q rest ds ρ h L := fun a w ha hst => hj a w ha (hst.perm hp)

/-- A slice of the activation's own: n elements of sz cells, whose cells are xs; Lb: its block. -/
def OwnS (T : TypeId) (sz : Nat) (v : Value) (n : Nat) (xs : List Value) (Lb : Own) : Prop :=
  xs.length = n * sz ∧ ((∃ p, v = .slice p 0 0 ∧ (∀ a : Addr, p = some a → a.spot = none) ∧ n = 0 ∧ Lb = []) ∨ ∃ b c sp, v = .slice (some ⟨b, 0, none⟩) n c ∧ Lb = [(b, row T (xs ++ sp))] ∧ n ≤ c ∧ (xs ++ sp).length = c * sz)
theorem OwnS.nil (T : TypeId) (sz : Nat) : OwnS T sz (.slice none 0 0) 0 [] [] := ⟨by simp, .inl ⟨none, rfl, fun _ e => (by cases e), rfl, rfl⟩⟩
theorem OwnS.lit {T : TypeId} {sz n : Nat} {b : Nat} {xs : List Value} (hl : xs.length = n * sz) : OwnS T sz (.slice (some ⟨b, 0, none⟩) n n) n xs [(b, row T xs)] :=
  ⟨hl, .inr ⟨b, n, [], rfl, by simp, Nat.le_refl _, by simpa using hl⟩⟩

/-- The part Lb among the owned blocks, and the owned blocks with something else in its place. -/
class AtS (L Lb : Own) (f : outParam (Own → Own)) : Prop where
  e : ∃ L1 L2, L = L1 ++ (Lb ++ L2) ∧ ∀ x, f x = L1 ++ (x ++ L2)
instance (priority := 1100) AtS.self {Lb : Own} : AtS Lb Lb (fun x => x) := ⟨[], [], by simp, by simp⟩
instance AtS.head {Lb L2 : Own} : AtS (Lb ++ L2) Lb (fun x => x ++ L2) := ⟨[], L2, rfl, fun _ => rfl⟩
instance AtS.tail {L Lb : Own} {p : Nat × Obj} {f : Own → Own} [a : AtS L Lb f] : AtS (p :: L) Lb (fun x => p :: f x) := by
  obtain ⟨L1, L2, h1, h2⟩ := a.e
  exact ⟨p :: L1, L2, by rw [h1]; rfl, fun x => by rw [h2]; rfl⟩
instance AtS.app {L M Lb : Own} {f : Own → Own} [a : AtS L Lb f] : AtS (M ++ L) Lb (fun x => M ++ f x) := by
  obtain ⟨L1, L2, h1, h2⟩ := a.e
  exact ⟨M ++ L1, L2, by rw [h1, List.append_assoc], fun x => by rw [h2, List.append_assoc]⟩

section make
variable {x y : Operand} {T e : TypeId}
/-- 'make([]T, n, m)' -/
theorem o_mk {sz by' : Nat} {z : List Value} {q q' : IntKind} {n m : Nat} {a b : Int} [hu : Sl C.P T e] [hs : Sz C.P e sz] [hb : By C.P e by'] [hz : Zv C.P e z] (hx : ρ.ev x = .int q a) (hy : ρ.ev y = .int q' b)
    (ha : a = (n : Int)) (hb' : b = (m : Int)) (hnm : n ≤ m) (hm : m * by' ≤ 140737488355328) (hm2 : m ≤ 1000000000000000)
    (k : ∀ g, JL C ops Q rest ds (ρ.set d (.slice (some ⟨g, 0, none⟩) n m)) h ((g, row e (List.replicate m z).flatten) :: L)) (hn : Nat.blt d C.n = true := by rfl) (hzl : z.length = sz := by rfl) :
    JL C ops Q (⟨some d, .makeSlice T x y, ty, pos, after, none⟩ :: rest) ds ρ h L :=
  JL.val rfl rfl rfl hn fun w hst => by
    refine ⟨_, h, _, w.alloc (row e (List.replicate m z).flatten), run_v ?_, hst.alloc _, k _⟩
    subst ha hb'
    obtain ⟨i, hi1, hi2⟩ := hb.i
    obtain ⟨i2, hi3, hi4⟩ := hs.i
    obtain ⟨i3, v, hi5, hi6, hi7⟩ := hz.i
    have e1 : i2 = i := by rw [hi1] at hi3; cases hi3; rfl
    have e2 : i3 = i := by rw [hi1] at hi5; cases hi5; rfl
    subst e1 e2
    have hr := run_make (P := C.P) w T e i3 v hu.u hi1 hi6 q q' (n : Int) (m : Int) (by omega) (by omega) (by
      rw [hi2, Int.mul_comm]
      have : ((m * by' : Nat) : Int) ≤ ((140737488355328 : Nat) : Int) := Int.ofNat_le.2 hm
      rw [Int.natCast_mul] at this
      omega) (by omega)
    rw [hx, hy, hr]
    have : madeCells v.cells ((m : Int).toNat * i3.size) = ⟨(List.replicate m z).flatten⟩ := by
      unfold madeCells
      rw [hi7, Int.toNat_natCast, hi4]
      exact zeros_eq z (m * sz) m (by rw [hzl])
    rw [this]
    rfl
end make

theorem setN_append (us : List Value) : ∀ (xs sp : List Value), us.length ≤ sp.length → setN (xs ++ sp) xs.length us = xs ++ (us ++ sp.drop us.length) := by
  induction us with
  | nil => intro xs sp _; simp [setN]
  | cons u us ih =>
    intro xs sp hl
    cases sp with
    | nil => simp at hl
    | cons s sp =>
      have := ih (xs ++ [u]) sp (by simpa using hl)
      simp only [setN]
      have hs : (xs ++ s :: sp).set xs.length u = (xs ++ [u]) ++ sp := by simp
      rw [hs, show xs.length + 1 = (xs ++ [u]).length by simp, this]
      simp
theorem plain_one {u : Value} (h : plain u = true) : u.oneCell' = true := by cases u <;> first | rfl | cases h

theorem cells_of_row {w : World} {b o : Nat} {l us : List Value} {T : TypeId} {fr : Nat × Nat} (hb : w.heap[b]? = some (.cells ⟨l⟩ T fr)) (hl : LookN l o us) : ∀ j u, us[j]? = some u → w.cell? ((⟨b, o, none⟩ : Addr).add j) = some u := fun j u hu => by
  rw [add_none]
  exact cell_of hb (hl.get j u hu)

/-- What 'append' does, at a slice of one's own. -/
theorem run_append {P : Program} {w0 w : World} {h0 h : Heap} {L Lb : Own} {f : Own → Own} {T T' e sz by' n m : Nat} {z xs us : List Value} {v y : Value} {ty : TypeId} [hu : Sl P T e] [hs : Sz P e sz] [hb : By P e by'] [hz : Zv P e z]
    (hzl : z.length = sz) (hst : St w0 h0 h L w) (a : AtS L Lb f) (ho : OwnS e sz v n xs Lb) (hpl : ∀ u ∈ us, plain u = true) (hby : by' ≤ 100000) (hlen : n + m ≤ 1000000000)
    (src : Src P sz T' y m us w) :
    ∃ v' Lb' w', (Builtin.append_ #[T, T'] ty #[v, y]).run P w = .ok v' w' ∧ OwnS e sz v' (n + m) (xs ++ us) Lb' ∧ St w0 h0 h (f Lb') w' := by
  obtain ⟨hxl, hv⟩ := ho
  obtain ⟨i, hi1, hi2⟩ := hb.i
  obtain ⟨i2, hi3, hi4⟩ := hs.i
  obtain ⟨i3, zv, hi5, hi6, hi7⟩ := hz.i
  have e1 : i2 = i := by rw [hi1] at hi3; cases hi3; rfl
  have e2 : i3 = i := by rw [hi1] at hi5; cases hi5; rfl
  subst e1 e2
  have hus := src.newsLen
  have hxu : (xs ++ us).length = (n + m) * sz := by rw [List.length_append, hxl, hus, Nat.add_mul]
  obtain ⟨L1, L2, hL, hf⟩ := a.e
  have hsrc : Src P i3.size T' y m us w := hi4.symm ▸ src
  have hzs : zv.cells.size = sz := by rw [hi7]; exact hzl
  -- growing
  have grow : ∀ p c, v = .slice p n c → n ≤ c → c < n + m → (Builtin.firstCells i3.size n (.slice p n c)).run P w.drew = .ok xs.toArray w.drew →
      ∃ v' Lb' w', (Builtin.append_ #[T, T'] ty #[v, y]).run P w = .ok v' w' ∧ OwnS e sz v' (n + m) (xs ++ us) Lb' ∧ St w0 h0 h (f Lb') w' := by
    intro p c hvp _ hc hold
    have hfit : Builtin.nextslicecap (n + m) c * i3.bytes ≤ 281474976710656 := growslice_fits hc (by
      rw [hi2]
      calc (n + m) * by' ≤ 1000000000 * 100000 := Nat.mul_le_mul hlen hby
        _ ≤ 140737488355328 := by decide)
    have hr := run_append_grow_src (P := P) w T T' ty e i3 zv hu.u hi1 hi6 p n c xs hold y m us hsrc hc (by omega) hfit
    rw [← hvp] at hr
    have hge := grownCap_ge w (n + m) c e
    refine ⟨_, [(w.heap.size, row e ((xs ++ us) ++ (Builtin.zeroCells zv.cells (grownCap w (n + m) c e - (n + m))).toList))], _, hr, ⟨hxu, .inr ⟨_, _, _, rfl, rfl, hge, ?_⟩⟩, ?_⟩
    · rw [List.length_append, hxu, Array.length_toList, size_zeroCells, hzs, ← Nat.add_mul]
      congr 1; omega
    · have hst' : St w0 h0 h L w.drew := hst.drew
      have h1 := hst'.alloc (row e ((xs ++ us) ++ (Builtin.zeroCells zv.cells (grownCap w (n + m) c e - (n + m))).toList))
      have hobj : row e ((xs ++ us) ++ (Builtin.zeroCells zv.cells (grownCap w (n + m) c e - (n + m))).toList) = .cells ((xs ++ us).toArray ++ Builtin.zeroCells zv.cells (grownCap w (n + m) c e - (n + m))) e := by
        unfold row
        congr 1
        apply Array.ext'
        simp
      rw [hobj] at h1 ⊢
      rw [hf]
      clear hr hobj
      generalize Obj.cells ((xs ++ us).toArray ++ Builtin.zeroCells zv.cells (grownCap w (n + m) c e - (n + m))) e = O at h1 ⊢
      have hsz : w.drew.heap.size = w.heap.size := rfl
      rw [hsz] at h1
      refine St.of (h1.perm (L' := L1 ++ ([(w.heap.size, O)] ++ (Lb ++ L2))) ?_) (fun q hq => ?_) ?_
      · rw [hL]
        exact (List.perm_middle).symm
      · simp only [List.mem_append, List.mem_singleton] at hq ⊢
        rcases hq with h | h | h
        · exact .inl h
        · exact .inr (.inl h)
        · exact .inr (.inr (.inr h))
      · have nd := h1.nd
        rw [hL] at nd
        have : (L1 ++ ([(w.heap.size, O)] ++ L2)).Perm ((w.heap.size, O) :: (L1 ++ L2)) := List.perm_middle
        refine ((this.map _).nodup_iff).2 (List.Sublist.nodup (List.Sublist.map _ (List.Sublist.cons_cons _ ?_)) nd)
        exact List.Sublist.append (List.Sublist.refl _) (List.sublist_append_right _ _)
  rcases hv with ⟨p, rfl, hpn, rfl, rfl⟩ | ⟨b, c, sp, rfl, rfl, hnc, hlen2⟩
  · obtain rfl : xs = [] := List.eq_nil_of_length_eq_zero (by simpa using hxl)
    rcases Nat.eq_zero_or_pos m with rfl | hm
    · obtain rfl : us = [] := List.eq_nil_of_length_eq_zero (by simpa using hus)
      have hr := run_append_nothing (P := P) w T T' ty e i3 hu.u hi1 p 0 0 (Nat.le_refl _) y hsrc
      exact ⟨_, [], w, hr, ⟨by simp, .inl ⟨p, rfl, hpn, rfl, rfl⟩⟩, by rw [hf, ← hL]; exact hst⟩
    · refine grow p 0 rfl (Nat.le_refl _) (by omega) ?_
      cases p <;> simp [Builtin.firstCells, loadCells, loadCellsFrom, Sem.run, Pure.pure]
  · have hat : At L b (row e (xs ++ sp)) (fun o => L1 ++ ((b, o) :: L2)) := ⟨L1, L2, by rw [hL]; rfl, fun _ => rfl⟩
    have hrow := hat.heap hst
    by_cases hfit : n + m ≤ c
    · have husp : us.length ≤ sp.length := by
        rw [List.length_append, hxl] at hlen2
        have : (n + m) * sz ≤ c * sz := Nat.mul_le_mul_right _ hfit
        rw [Nat.add_mul] at this; omega
      obtain ⟨w', g1, g2, g3, g4, g5, g6, g7⟩ := run_storeCells (P := P) us 0 (o := n * sz) hrow (by rw [List.length_append, hxl]; omega) hpl
      refine ⟨.slice (some ⟨b, 0, none⟩) (n + m) c, [(b, row e ((xs ++ us) ++ sp.drop us.length))], w', ?_, ⟨hxu, .inr ⟨b, c, _, rfl, rfl, hfit, ?_⟩⟩, ?_⟩
      · rcases src.kind with ⟨e', hk⟩ | hk <;> simp [Builtin.append_, run_underlying hu.u, run_underlying hk, sizeOf, typeInfo, hi1, hi4, src.len, hfit, src.cells, add_none, g1]
      · rw [List.length_append, List.length_append, List.length_drop]
        rw [List.length_append] at hlen2; omega
      · have := hat.upd hst (o' := row e ((xs ++ us) ++ sp.drop us.length)) g2 g3 g4 g5 (by
          rw [g6]; simp only [Nat.add_zero]
          rw [← hxl, setN_append us xs sp husp, List.append_assoc]) g7
        rw [hf]; exact this
    · refine grow _ c rfl hnc (by omega) ?_
      have hx : (Builtin.firstCells sz n (.slice (some ⟨b, 0, none⟩) n c)).run P w.drew = .ok xs.toArray w.drew := by
        have hb2 : w.drew.heap[b]? = some (row e (xs ++ sp)) := hrow
        simp only [Builtin.firstCells, ← hxl]
        exact run_loadCells hb2 (by simpa using LookN.of_get (vs := xs) (o := 0) fun j u hj => by simpa [List.getElem?_append_left (List.getElem?_eq_some_iff.1 hj).1] using hj)
      rw [hi4]; exact hx

section appends
variable {x y : Operand} {T T' e : TypeId}
/-- 'append', from whatever source. -/
theorem o_app {Lb : Own} {f : Own → Own} {sz by' n m : Nat} {z xs us : List Value} {v u : Value} [hu : Sl C.P T e] [hs : Sz C.P e sz] [hb : By C.P e by'] [hz : Zv C.P e z]
    (hx : ρ.ev x = v) (hy : ρ.ev y = u) (ho : OwnS e sz v n xs Lb) (a : AtS L Lb f) (src : ∀ w, St C.w0 C.h0 h L w → Src C.P sz T' u m us w) (hlen : n + m ≤ 1000000000)
    (k : ∀ v' Lb', OwnS e sz v' (n + m) (xs ++ us) Lb' → JL C ops Q rest ds (ρ.set d v') h (f Lb')) (hn : Nat.blt d C.n = true := by rfl) (hzl : z.length = sz := by rfl) (hby : Nat.ble by' 100000 = true := by rfl) :
    JL C ops Q (⟨some d, .call { callee := .builtin .append, args := #[x, y], argTypes := #[T, T'] }, ty, pos, after, none⟩ :: rest) ds ρ h L :=
  JL.val rfl rfl rfl hn fun w hst => by
    have hpl : ∀ u ∈ us, plain u = true := fun u hu => by
      have := (src w hst).one u hu
      cases u <;> first | rfl | cases this
    obtain ⟨v', Lb', w', h1, h2, h3⟩ := run_append (T := T) (T' := T') (e := e) (ty := ty) hzl hst a ho hpl (Nat.le_of_ble_eq_true hby) hlen (src w hst)
    refine ⟨v', h, _, w', ?_, h3, k v' Lb' h2⟩
    have hx' : (Builtin.append_ #[T, T'] ty #[ρ.ev x, ρ.ev y]).run C.P w = .ok v' w' := by rw [hx, hy]; exact h1
    have hm : (#[x, y] : Array Operand).map ρ.ev = #[ρ.ev x, ρ.ev y] := by simp
    simp only [execOp, resolve, hm]
    exact run_v hx'
theorem src_own {b o n c sz e' : Nat} {l us : List Value} {T0 : TypeId} {fr : Nat × Nat} {f : Obj → Own} [hu : Sl C.P T' e'] (a : At L b (.cells ⟨l⟩ T0 fr) f) (hl : LookN l o us) (hlen : us.length = n * sz) (hpl : ∀ u ∈ us, plain u = true) :
    ∀ w, St C.w0 C.h0 h L w → Src C.P sz T' (.slice (some ⟨b, o, none⟩) n c) n us w := fun w hst =>
  Src.ofSlice w hu.u _ n c us hlen (cells_of_row (a.heap hst) hl) (fun u hu => plain_one (hpl u hu))
theorem src_fro {n sz e' : Nat} {us : List Value} {v : Value} {h1 : Heap} [hu : Sl C.P T' e'] [hx : Ext h1 h] (s : SlAt h1 v n sz us) (hpl : ∀ u ∈ us, plain u = true) :
    ∀ w, St C.w0 C.h0 h L w → Src C.P sz T' v n us w := fun w hst => by
  obtain ⟨p, c, rfl, _, hl, hp⟩ := s
  rcases hp with ⟨rfl, _⟩ | ⟨b, o, rfl, hc⟩
  · obtain rfl : us = [] := List.eq_nil_of_length_eq_zero (by simpa using hl)
    cases p with
    | none => exact Src.ofNil w hu.u c
    | some a => exact Src.ofSlice w hu.u a 0 c [] (by simp) (fun j u hj => by simp at hj) (fun u hu => by cases hu)
  · obtain ⟨l, T0, fr, hb, hlk⟩ := hc.mono hx
    exact Src.ofSlice w hu.u _ n c us hl (cells_of_row (hst.fro _ _ hb) hlk) (fun u hu => plain_one (hpl u hu))
end appends

section copies
variable {x y : Operand} {T T' e : TypeId}
/-- 'copy' into a slice of one's own. -/
theorem o_cp {b o n c m : Nat} {sz : Nat} {l us : List Value} {u : Value} {T0 : TypeId} {f : Obj → Own} [hu : Sl C.P T e] [hs : Sz C.P e sz] (hx : ρ.ev x = .slice (some ⟨b, o, none⟩) n c) (hy : ρ.ev y = u)
    (a : At L b (row T0 l) f) (src : ∀ w, St C.w0 C.h0 h L w → Src C.P sz T' u m us w) (hmn : m ≤ n) (hlen : o + us.length ≤ l.length)
    (k : JL C ops Q rest ds (ρ.set d (.int .i64 (m : Int))) h (f (row T0 (setN l o us)))) (hn : Nat.blt d C.n = true := by rfl) :
    JL C ops Q (⟨some d, .call { callee := .builtin .copy, args := #[x, y], argTypes := #[T, T'] }, ty, pos, after, none⟩ :: rest) ds ρ h L :=
  JL.val rfl rfl rfl hn fun w hst => by
    have hsr := src w hst
    have hpl : ∀ u ∈ us, plain u = true := fun u hu => by
      have := hsr.one u hu
      cases u <;> first | rfl | cases this
    obtain ⟨w', g1, g2, g3, g4, g5, g6, g7⟩ := run_storeCells (P := C.P) us 0 (o := o) (a.heap hst) (by omega) hpl
    refine ⟨_, h, _, w', ?_, a.upd hst g2 g3 g4 g5 g6 g7, k⟩
    have hmin : Nat.min m n = m := Nat.min_eq_left hmn
    have h1 : (Builtin.copy_ #[T, T'] ty #[ρ.ev x, ρ.ev y]).run C.P w = .ok (.int .i64 (m : Int)) w' := by
      rw [hx, hy]
      simp [Builtin.copy_, run_underlying hu.u, hsr.len, run_sizeOf hs.i, hmin, hsr.cells, g1, goInt]
    have hm : (#[x, y] : Array Operand).map ρ.ev = #[ρ.ev x, ρ.ev y] := by simp
    simp only [execOp, resolve, hm]
    exact run_v h1
end copies
end Go.Z
end
