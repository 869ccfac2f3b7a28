/- Parts of slices of elements: beginnings, ends, one behind the other. -/
import Derived.Test.YtjdfhlkpfjhjoaaR3
import Derived.Test.YtjdfhlkpfjhjoaaB12
set_option linter.unusedSimpArgs false
set_option linter.unusedVariables false
namespace Go.Z
open Go Go.RowKit
variable {α : Type} {R : Heap → List Value → α → Prop} {sz : Nat} {h : Heap} {cs ds : List Value} {l m : List α} {a : α}
theorem Cells.append (c : Cells R sz h cs l) (e : Cells R sz h ds m) : Cells R sz h (cs ++ ds) (l ++ m) := by
  refine ⟨by simp [c.1, e.1, Nat.add_mul], fun i x hi => ?_⟩
  rcases Nat.lt_or_ge i l.length with h1 | h1
  · rw [List.getElem?_append_left h1] at hi
    have h2 : (i + 1) * sz ≤ l.length * sz := Nat.mul_le_mul_right _ h1
    rw [Nat.succ_mul, ← c.1] at h2
    rw [List.drop_append_of_le_length (by omega), List.take_append_of_le_length (by rw [List.length_drop]; omega)]
    exact c.2 i x hi
  · rw [List.getElem?_append_right h1] at hi
    have h3 : i * sz = cs.length + (i - l.length) * sz := by rw [c.1, ← Nat.add_mul]; congr 1; omega
    rw [h3, List.drop_append, List.drop_eq_nil_of_le (by omega), List.nil_append, Nat.add_sub_cancel_left]
    exact e.2 _ x hi
theorem Cells.take (c : Cells R sz h cs l) {k : Nat} (hk : k ≤ l.length) : Cells R sz h (cs.take (k * sz)) (l.take k) := by
  have h0 : k * sz ≤ cs.length := by rw [c.1]; exact Nat.mul_le_mul_right _ hk
  refine ⟨by rw [List.length_take, List.length_take, Nat.min_eq_left h0, Nat.min_eq_left hk], fun i x hi => ?_⟩
  rw [List.getElem?_take] at hi
  split at hi
  · rename_i hik
    have h2 : (i + 1) * sz ≤ k * sz := Nat.mul_le_mul_right _ hik
    rw [Nat.succ_mul] at h2
    rw [part_ext (ds := cs)]
    · exact c.2 i x hi
    · intro j hj
      rw [List.getElem?_take, if_pos (by omega)]
  · cases hi
theorem Cells.drop (c : Cells R sz h cs l) (k : Nat) : Cells R sz h (cs.drop (k * sz)) (l.drop k) := by
  refine ⟨by rw [List.length_drop, List.length_drop, c.1, Nat.sub_mul], fun i x hi => ?_⟩
  rw [List.getElem?_drop] at hi
  have := c.2 _ x hi
  rw [List.drop_drop, ← Nat.add_mul]; exact this
end Go.Z
