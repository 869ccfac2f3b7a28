/- How rows, vectors and matrices read: slices of elements of several cells in frozen memory. -/
import Derived.Test.YtjdfhlkpfjhjoaaR1
import Derived.Test.YtjdfhlkpfjhjoaaB11
set_option linter.unusedSimpArgs false
set_option linter.unusedVariables false
namespace Go.Z
open Go Go.RowKit

/-- Elements of sz cells each, laid one behind the other. -/
def Cells {α : Type} (R : Heap → List Value → α → Prop) (sz : Nat) (h : Heap) (cs : List Value) (l : List α) : Prop :=
  cs.length = l.length * sz ∧ ∀ i a, l[i]? = some a → R h ((cs.drop (i * sz)).take sz) a
/-- A slice of such elements. -/
def Sls {α : Type} (R : Heap → List Value → α → Prop) (sz : Nat) (h : Heap) (v : Value) (l : List α) : Prop :=
  ∃ cs, SlAt h v l.length sz cs ∧ Cells R sz h cs l
class Mo {α : Type} (R : Heap → List Value → α → Prop) : Prop where m : ∀ {h h' : Heap} {cs : List Value} {a : α}, Ext h h' → R h cs a → R h' cs a
class Pl {α : Type} (R : Heap → List Value → α → Prop) : Prop where p : ∀ {h : Heap} {cs : List Value} {a : α}, R h cs a → ∀ u ∈ cs, plain u = true
theorem Cells.mono {α : Type} {R : Heap → List Value → α → Prop} [mo : Mo R] {sz : Nat} {h h' : Heap} {cs : List Value} {l : List α} (c : Cells R sz h cs l) [e : Ext h h'] : Cells R sz h' cs l :=
  ⟨c.1, fun i a hi => mo.m e (c.2 i a hi)⟩
theorem Sls.mono {α : Type} {R : Heap → List Value → α → Prop} [mo : Mo R] {sz : Nat} {h h' : Heap} {v : Value} {l : List α} (c : Sls R sz h v l) [e : Ext h h'] : Sls R sz h' v l :=
  let ⟨cs, a, b⟩ := c; ⟨cs, a.mono, b.mono⟩
theorem Cells.nil {α : Type} {R : Heap → List Value → α → Prop} {sz : Nat} {h : Heap} : Cells R sz h [] [] := ⟨by simp, fun i a hi => by simp at hi⟩
theorem Cells.snoc {α : Type} {R : Heap → List Value → α → Prop} {sz : Nat} {h : Heap} {cs us : List Value} {l : List α} {a : α} (c : Cells R sz h cs l) (hu : us.length = sz) (ha : R h us a) : Cells R sz h (cs ++ us) (l ++ [a]) := by
  refine ⟨by simp [c.1, hu, Nat.add_mul], fun i x hi => ?_⟩
  rcases Nat.lt_or_ge i l.length with h1 | h1
  · rw [List.getElem?_append_left h1] at hi
    have := c.2 i x hi
    have h2 : i * sz + sz ≤ cs.length := by rw [c.1, ← Nat.succ_mul]; exact Nat.mul_le_mul_right _ h1
    rw [List.drop_append_of_le_length (by omega), List.take_append_of_le_length (by rw [List.length_drop]; omega)]
    exact this
  · rw [List.getElem?_append_right h1] at hi
    have h3 : i = l.length := by
      rcases Nat.lt_or_ge (i - l.length) 1 with h4 | h4
      · omega
      · rw [List.getElem?_eq_none (by simpa using h4)] at hi; cases hi
    subst h3
    simp at hi; subst hi
    rw [← c.1, List.drop_left, List.take_of_length_le (by omega)]
    exact ha
theorem Sls.of {α : Type} {R : Heap → List Value → α → Prop} {sz : Nat} {h : Heap} {v : Value} {l : List α} {n : Nat} {cs : List Value} (s : SlAt h v n sz cs) (c : Cells R sz h cs l) (hn : n = l.length) : Sls R sz h v l := by
  subst hn; exact ⟨cs, s, c⟩
theorem Sls.nil {α : Type} {R : Heap → List Value → α → Prop} {sz : Nat} (h : Heap) : Sls R sz h (.slice none 0 0) [] := ⟨[], SlAt.nil h sz, Cells.nil⟩
theorem Sls.out {α : Type} {R : Heap → List Value → α → Prop} {sz : Nat} {h : Heap} {v : Value} {l : List α} (s : Sls R sz h v l) : ∃ p c, v = .slice p l.length c ∧ l.length ≤ c := by
  obtain ⟨cs, ⟨p, c, rfl, h1, _⟩, _⟩ := s; exact ⟨p, c, rfl, h1⟩
theorem Sls.get {α : Type} {R : Heap → List Value → α → Prop} {sz : Nat} {h : Heap} {p : Option Addr} {n c : Nat} {l : List α} (s : Sls R sz h (.slice p n c) l) {i : Nat} {a : α} (hi : l[i]? = some a) :
    ∃ b o us, p = some ⟨b, o, none⟩ ∧ CellN h b (o + i * sz) us ∧ R h us a ∧ us.length = sz := by
  obtain ⟨cs, h1, h2⟩ := s
  have hlt : i < l.length := (List.getElem?_eq_some_iff.1 hi).1
  have hn : n = l.length := by obtain ⟨p', c', e, _⟩ := h1; cases e; rfl
  subst hn
  obtain ⟨b, o, rfl, hc⟩ := h1.elem hlt
  refine ⟨b, o, _, rfl, hc, h2.2 i a hi, ?_⟩
  rw [List.length_take, List.length_drop, h2.1]
  have : i * sz + sz ≤ l.length * sz := by rw [← Nat.succ_mul]; exact Nat.mul_le_mul_right _ hlt
  omega
/-- The cells of the whole, to be copied. -/
theorem Sls.cells {α : Type} {R : Heap → List Value → α → Prop} {sz : Nat} {h : Heap} {v : Value} {l : List α} (s : Sls R sz h v l) : ∃ cs, SlAt h v l.length sz cs ∧ Cells R sz h cs l := s

/-- A term: column, sign, limbs; canonical or not. -/
abbrev RT := Int × Bool × List Nat
def TermR (h : Heap) (cs : List Value) (t : RT) : Prop := ∃ p c, cs = [.int .i64 t.1, .bool t.2.1, .slice p t.2.2.length c] ∧ t.2.2.length ≤ c ∧ MagAt h (.slice p t.2.2.length c) t.2.2
def IntR (h : Heap) (cs : List Value) (z : Int) : Prop := ∃ p c, cs = [.bool (decide (z < 0)), .slice p (limbs z.natAbs).length c] ∧ (limbs z.natAbs).length ≤ c ∧ MagAt h (.slice p (limbs z.natAbs).length c) (limbs z.natAbs)
def One {α : Type} (P : Heap → Value → α → Prop) (h : Heap) (cs : List Value) (a : α) : Prop := ∃ p n c, cs = [.slice p n c] ∧ P h (.slice p n c) a
abbrev RowAt := Sls TermR 3
abbrev VecAt := Sls IntR 2
abbrev RowsAt := Sls (One RowAt) 1
abbrev VecsAt := Sls (One VecAt) 1
instance : Mo TermR := ⟨fun e ⟨p, c, a, b, d⟩ => ⟨p, c, a, b, d.mono (e := e)⟩⟩
instance : Mo IntR := ⟨fun e ⟨p, c, a, b, d⟩ => ⟨p, c, a, b, d.mono (e := e)⟩⟩
instance {α : Type} {R : Heap → List Value → α → Prop} {sz : Nat} [mo : Mo R] : Mo (One (Sls R sz)) := ⟨fun e ⟨p, n, c, a, b⟩ => ⟨p, n, c, a, b.mono (e := e)⟩⟩
instance : Pl TermR := ⟨fun ⟨p, c, a, b, d⟩ u hu => by subst a; simp at hu; rcases hu with rfl | rfl | rfl <;> rfl⟩
instance : Pl IntR := ⟨fun ⟨p, c, a, b, d⟩ u hu => by subst a; simp at hu; rcases hu with rfl | rfl <;> rfl⟩
instance {α : Type} {P : Heap → Value → α → Prop} : Pl (One P) := ⟨fun ⟨p, n, c, a, b⟩ u hu => by subst a; simp at hu; subst hu; rfl⟩

/-- The parts of a term of a row. -/
theorem Sls.term {h : Heap} {p : Option Addr} {n c : Nat} {l : List RT} (s : RowAt h (.slice p n c) l) {i : Nat} {t : RT} (hi : l[i]? = some t) :
    ∃ b o q k, p = some ⟨b, o, none⟩ ∧ CellN h b (o + i * 3 + 0) [.int .i64 t.1] ∧ CellN h b (o + i * 3 + 1) [.bool t.2.1, .slice q t.2.2.length k] ∧ CellN h b (o + i * 3) [.int .i64 t.1, .bool t.2.1, .slice q t.2.2.length k] ∧
      t.2.2.length ≤ k ∧ MagAt h (.slice q t.2.2.length k) t.2.2 := by
  obtain ⟨b, o, us, rfl, hc, ⟨q, k, rfl, hk, hm⟩, _⟩ := s.get hi
  exact ⟨b, o, q, k, rfl, hc.cell (j := 0) rfl, hc.part (j := 1) (fun i v hv => by
    match i, hv with
    | 0, hv => simpa using hv
    | 1, hv => simpa using hv
    | n + 2, hv => simp at hv), hc, hk, hm⟩
theorem Sls.int {h : Heap} {p : Option Addr} {n c : Nat} {l : List Int} (s : VecAt h (.slice p n c) l) {i : Nat} {z : Int} (hi : l[i]? = some z) :
    ∃ b o q k, p = some ⟨b, o, none⟩ ∧ CellN h b (o + i * 2) [.bool (decide (z < 0)), .slice q (limbs z.natAbs).length k] ∧ (limbs z.natAbs).length ≤ k ∧ MagAt h (.slice q (limbs z.natAbs).length k) (limbs z.natAbs) := by
  obtain ⟨b, o, us, rfl, hc, ⟨q, k, rfl, hk, hm⟩, _⟩ := s.get hi
  exact ⟨b, o, q, k, rfl, hc, hk, hm⟩
theorem Sls.row {α : Type} {P : Heap → Value → List α → Prop} {h : Heap} {p : Option Addr} {n c : Nat} {l : List (List α)} (s : Sls (One P) 1 h (.slice p n c) l) {i : Nat} {r : List α} (hi : l[i]? = some r) :
    ∃ b o q m k, p = some ⟨b, o, none⟩ ∧ CellN h b (o + i * 1) [.slice q m k] ∧ P h (.slice q m k) r := by
  obtain ⟨b, o, us, rfl, hc, ⟨q, m, k, rfl, hm⟩, _⟩ := s.get hi
  exact ⟨b, o, q, m, k, rfl, hc, hm⟩
theorem lt_get {α : Type} {l : List α} {i : Nat} (h : i < l.length) : ∃ a, l[i]? = some a := ⟨l[i], by simp [h]⟩
/-- A matrix of rows. -/
def SparseAt (h : Heap) (v : Value) (rows cols : Int) (L : List (List RT)) : Prop := ∃ p c, v = .agg ⟨[.int .i64 rows, .int .i64 cols, .slice p L.length c]⟩ ∧ RowsAt h (.slice p L.length c) L
def MatAt (h : Heap) (v : Value) (rows cols : Int) (A : List (List Int)) : Prop := ∃ p c, v = .agg ⟨[.int .i64 rows, .int .i64 cols, .slice p A.length c]⟩ ∧ VecsAt h (.slice p A.length c) A
theorem SparseAt.mono {h h' : Heap} {v : Value} {r c : Int} {L : List (List RT)} (s : SparseAt h v r c L) [e : Ext h h'] : SparseAt h' v r c L := let ⟨p, k, a, b⟩ := s; ⟨p, k, a, b.mono⟩
theorem MatAt.mono {h h' : Heap} {v : Value} {r c : Int} {L : List (List Int)} (s : MatAt h v r c L) [e : Ext h h'] : MatAt h' v r c L := let ⟨p, k, a, b⟩ := s; ⟨p, k, a, b.mono⟩
/-- A canonical term. -/
def tm (t : Int × Int) : RT := (t.1, decide (t.2 < 0), limbs t.2.natAbs)
def TermAt (h : Heap) (v : Value) (t : Int × Int) : Prop := ∃ p c, v = .agg ⟨[.int .i64 t.1, .bool (decide (t.2 < 0)), .slice p (limbs t.2.natAbs).length c]⟩ ∧ MagAt h (.slice p (limbs t.2.natAbs).length c) (limbs t.2.natAbs)
theorem Sls.drop {α : Type} {R : Heap → List Value → α → Prop} {sz : Nat} {h : Heap} {p : Option Addr} {n c k : Nat} {l : List α} (s : Sls R sz h (.slice p n c) l) (hk : k ≤ l.length) :
    Sls R sz h (.slice (if c = k then p else p.map (·.add (k * sz))) (n - k) (c - k)) (l.drop k) := by
  obtain ⟨cs, h1, h2⟩ := s
  have hn : n = l.length := by obtain ⟨p', c', e, _⟩ := h1; cases e; rfl
  subst hn
  refine ⟨cs.drop (k * sz), by rw [List.length_drop]; exact h1.drop hk, by rw [List.length_drop, List.length_drop, h2.1, Nat.sub_mul], fun i a hi => ?_⟩
  rw [List.getElem?_drop] at hi
  have := h2.2 _ _ hi
  rw [List.drop_drop, ← Nat.add_mul]; exact this
theorem IntAt.zero (h : Heap) : IntAt h (.agg ⟨[.bool false, .slice none 0 0]⟩) 0 := ⟨_, rfl, by
  have : limbs (0 : Int).natAbs = [] := limbs_zero
  rw [this]; exact MagAt.nil h⟩
end Go.Z
