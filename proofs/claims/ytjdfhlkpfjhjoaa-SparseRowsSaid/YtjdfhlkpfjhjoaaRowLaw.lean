/- Plain laws about rows of terms: validity. No program is named here. -/
import Derived.Test.YtjdfhlkpfjhjoaaR2
import Derived.Test.YtjdfhlkpfjhjoaaInt3
set_option linter.unusedSimpArgs false
set_option linter.unusedVariables false
namespace Go.Z
/-- The column ahead of place i. -/
def lc (l : List RT) (i : Nat) : Int := if i = 0 then -1 else (l.getD (i - 1) (0, false, [])).1
def okTerm (last cols : Int) (t : RT) : Bool := decide (last < t.1) && decide (t.1 < cols) && canon t.2.1 t.2.2 && decide (sgn t.2.1 t.2.2 ≠ 0)
def okRow (last cols : Int) : List RT → Bool
  | [] => true
  | t :: r => okTerm last cols t && okRow t.1 cols r
def okAll (cols : Int) (L : List (List RT)) : Bool := L.all (okRow (-1) cols)
def validS (rows cols : Int) (L : List (List RT)) : Bool := decide (rows = L.length) && decide (0 ≤ cols) && okAll cols L
theorem drop_get {α : Type} {l : List α} {i : Nat} {a : α} (h : l[i]? = some a) : l.drop i = a :: l.drop (i + 1) := by
  obtain ⟨hi, rfl⟩ := List.getElem?_eq_some_iff.1 h
  exact List.drop_eq_getElem_cons hi
theorem okRow_step {l : List RT} {i : Nat} {t : RT} {last cols : Int} (h : l[i]? = some t) : okRow last cols (l.drop i) = (okTerm last cols t && okRow t.1 cols (l.drop (i + 1))) := by rw [drop_get h]; rfl
theorem lc_succ {l : List RT} {i : Nat} {t : RT} (h : l[i]? = some t) : lc l (i + 1) = t.1 := by simp [lc, h]
theorem lc_zero (l : List RT) : lc l 0 = -1 := rfl
theorem okAll_step {L : List (List RT)} {i : Nat} {r : List RT} {cols : Int} (h : L[i]? = some r) : okAll cols (L.drop i) = (okRow (-1) cols r && okAll cols (L.drop (i + 1))) := by rw [drop_get h]; rfl
theorem okTerm_false {last cols : Int} {t : RT} (h : ¬ (last < t.1 ∧ t.1 < cols ∧ canon t.2.1 t.2.2 = true ∧ sgn t.2.1 t.2.2 ≠ 0)) : okTerm last cols t = false := by
  cases e : okTerm last cols t with
  | false => rfl
  | true => simp [okTerm] at e; exact absurd ⟨e.1.1.1, e.1.1.2, e.1.2, e.2⟩ h
theorem okTerm_true {last cols : Int} {t : RT} (h : last < t.1 ∧ t.1 < cols ∧ canon t.2.1 t.2.2 = true ∧ sgn t.2.1 t.2.2 ≠ 0) : okTerm last cols t = true := by simp [okTerm, h]
theorem seven (b : Bool) (s col cols prev : Int) (i : Nat) : b = false ∨ (b = true ∧ s = 0) ∨ (b = true ∧ s ≠ 0 ∧ col < 0) ∨ (b = true ∧ s ≠ 0 ∧ 0 ≤ col ∧ cols ≤ col) ∨ (b = true ∧ s ≠ 0 ∧ 0 ≤ col ∧ col < cols ∧ i = 0) ∨
    (b = true ∧ s ≠ 0 ∧ 0 ≤ col ∧ col < cols ∧ 0 < i ∧ col ≤ prev) ∨ (b = true ∧ s ≠ 0 ∧ 0 ≤ col ∧ col < cols ∧ 0 < i ∧ prev < col) := by
  cases b
  · exact .inl rfl
  · by_cases h1 : s = 0
    · exact .inr (.inl ⟨rfl, h1⟩)
    · rcases (show col < 0 ∨ (0 ≤ col ∧ cols ≤ col) ∨ (0 ≤ col ∧ col < cols ∧ i = 0) ∨ (0 ≤ col ∧ col < cols ∧ 0 < i ∧ col ≤ prev) ∨ (0 ≤ col ∧ col < cols ∧ 0 < i ∧ prev < col) by omega) with h | h | h | h | h
      · exact .inr (.inr (.inl ⟨rfl, h1, h⟩))
      · exact .inr (.inr (.inr (.inl ⟨rfl, h1, h⟩)))
      · exact .inr (.inr (.inr (.inr (.inl ⟨rfl, h1, h⟩))))
      · exact .inr (.inr (.inr (.inr (.inr (.inl ⟨rfl, h1, h⟩)))))
      · exact .inr (.inr (.inr (.inr (.inr (.inr ⟨rfl, h1, h⟩)))))
theorem five (b : Bool) (s col cols last : Int) : col ≤ last ∨ (last < col ∧ cols ≤ col) ∨ (last < col ∧ col < cols ∧ b = false) ∨ (last < col ∧ col < cols ∧ b = true ∧ s = 0) ∨ (last < col ∧ col < cols ∧ b = true ∧ s ≠ 0) := by
  by_cases h1 : s = 0 <;> cases b <;> simp [h1] <;> omega
theorem lc_prev {l : List RT} {i : Nat} {t : RT} (hi : 0 < i) (h : l[i - 1]? = some t) : lc l i = t.1 := by
  obtain ⟨k, rfl⟩ : ∃ k, i = k + 1 := ⟨i - 1, by omega⟩
  exact lc_succ h
end Go.Z
