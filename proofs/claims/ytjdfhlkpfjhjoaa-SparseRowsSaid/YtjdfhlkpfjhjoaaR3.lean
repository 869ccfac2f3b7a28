/- Elements within blocks of one's own: reading and writing one of them. -/
import Derived.Test.YtjdfhlkpfjhjoaaR2
set_option linter.unusedSimpArgs false
set_option linter.unusedVariables false
namespace Go.Z
open Go Go.RowKit
theorem setN_eq {l vs : List Value} {o : Nat} (h : o + vs.length ≤ l.length) : setN l o vs = l.take o ++ (vs ++ (l.drop o).drop vs.length) := by
  have hl : (l.take o).length = o := by rw [List.length_take]; omega
  have := setN_append vs (l.take o) (l.drop o) (by rw [List.length_drop]; omega)
  rwa [List.take_append_drop, hl] at this
theorem setN_get {l vs : List Value} {o : Nat} (h : o + vs.length ≤ l.length) (k : Nat) : (setN l o vs)[k]? = if k < o then l[k]? else if k < o + vs.length then vs[k - o]? else l[k]? := by
  rw [setN_eq h]
  have hl : (l.take o).length = o := by rw [List.length_take]; omega
  by_cases h1 : k < o
  · rw [if_pos h1, List.getElem?_append_left (by omega), List.getElem?_take, if_pos h1]
  · rw [if_neg h1, List.getElem?_append_right (by omega), hl]
    by_cases h2 : k < o + vs.length
    · rw [if_pos h2, List.getElem?_append_left (by omega)]
    · rw [if_neg h2, List.getElem?_append_right (by omega), List.getElem?_drop, List.getElem?_drop]
      congr 1; omega
theorem part_ext {cs ds : List Value} {i sz : Nat} (h : ∀ k, k < sz → cs[i * sz + k]? = ds[i * sz + k]?) : (cs.drop (i * sz)).take sz = (ds.drop (i * sz)).take sz := by
  refine List.ext_getElem? fun k => ?_
  rw [List.getElem?_take, List.getElem?_take]
  by_cases hk : k < sz
  · rw [if_pos hk, if_pos hk, List.getElem?_drop, List.getElem?_drop]; exact h k hk
  · rw [if_neg hk, if_neg hk]
variable {α : Type} {R : Heap → List Value → α → Prop} {sz : Nat} {h : Heap} {cs us : List Value} {l : List α} {a : α}
theorem Cells.look (c : Cells R sz h cs l) {i : Nat} (hi : l[i]? = some a) : ∃ us, LookN cs (0 + i * sz) us ∧ R h us a ∧ us.length = sz := by
  have hlt : i < l.length := (List.getElem?_eq_some_iff.1 hi).1
  have h2 : i * sz + sz ≤ cs.length := by rw [c.1, ← Nat.succ_mul]; exact Nat.mul_le_mul_right _ hlt
  refine ⟨_, LookN.of_get fun j v hv => ?_, c.2 i a hi, by rw [List.length_take, List.length_drop]; omega⟩
  rw [List.getElem?_take] at hv
  split at hv
  · rw [List.getElem?_drop] at hv; rw [Nat.zero_add]; exact hv
  · cases hv
theorem Cells.set (c : Cells R sz h cs l) {j : Nat} (hj : j < l.length) (hu : us.length = sz) (ha : R h us a) : Cells R sz h (setN cs (0 + j * sz) us) (l.set j a) := by
  have h2 : j * sz + sz ≤ cs.length := by rw [c.1, ← Nat.succ_mul]; exact Nat.mul_le_mul_right _ hj
  have hle : (0 + j * sz) + us.length ≤ cs.length := by omega
  refine ⟨by rw [length_setN, List.length_set]; exact c.1, fun i x hi => ?_⟩
  by_cases e : i = j
  · subst e
    rw [List.getElem?_set_self hj] at hi
    cases hi
    have : ((setN cs (0 + i * sz) us).drop (i * sz)).take sz = us := by
      refine List.ext_getElem? fun k => ?_
      rw [List.getElem?_take]
      by_cases hk : k < sz
      · rw [if_pos hk, List.getElem?_drop, setN_get hle, if_neg (by omega), if_pos (by omega)]
        congr 1; omega
      · rw [if_neg hk, List.getElem?_eq_none (by omega)]
    rw [this]; exact ha
  · rw [List.getElem?_set_ne (Ne.symm e)] at hi
    have := c.2 i x hi
    rw [part_ext (ds := cs)]
    · exact this
    · intro k hk
      rw [setN_get hle]
      rcases Nat.lt_or_ge i j with h3 | h3
      · have : (i + 1) * sz ≤ j * sz := Nat.mul_le_mul_right _ h3
        rw [Nat.succ_mul] at this
        rw [if_pos (by omega)]
      · have : (j + 1) * sz ≤ i * sz := Nat.mul_le_mul_right _ (by omega)
        rw [Nat.succ_mul] at this
        rw [if_neg (by omega), if_neg (by omega)]
theorem Cells.rep {z : List Value} (hz : z.length = sz) (ha : R h z a) : ∀ n, Cells R sz h (List.replicate n z).flatten (List.replicate n a)
  | 0 => Cells.nil
  | n + 1 => by
    rw [List.replicate_succ', List.replicate_succ', List.flatten_append]
    simpa using (Cells.rep hz ha n).snoc hz ha
theorem IntR.zero (h : Heap) : IntR h [.bool false, .slice none 0 0] 0 := by
  have e : limbs (0 : Int).natAbs = [] := limbs_zero
  refine ⟨none, 0, ?_, ?_, ?_⟩
  · rw [e]; rfl
  · rw [e]; exact Nat.le_refl _
  · rw [e]; exact MagAt.nil h
end Go.Z
