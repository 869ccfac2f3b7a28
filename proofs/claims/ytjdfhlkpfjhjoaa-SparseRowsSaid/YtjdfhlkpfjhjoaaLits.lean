/- Rows, vectors and matrices that are written out; validity of canonical ones. -/
import Derived.Test.YtjdfhlkpfjhjoaaSp7
set_option linter.unusedSimpArgs false
set_option linter.unusedVariables false
namespace Go.Z
open Go
theorem TermAt.out {h : Heap} {v : Value} {t : Int × Int} (a : TermAt h v t) : ∃ p n c, v = .agg ⟨[.int .i64 t.1, .bool (decide (t.2 < 0)), .slice p n c]⟩ ∧ TermR h [.int .i64 t.1, .bool (decide (t.2 < 0)), .slice p n c] (tm t) := by
  obtain ⟨p, c, rfl, hm⟩ := a
  obtain ⟨p', c', e, hc⟩ := hm.out
  cases e
  exact ⟨p, _, c, rfl, p, c, rfl, hc, hm⟩
theorem IntAt.outR {h : Heap} {v : Value} {z : Int} (a : IntAt h v z) : ∃ p n c, v = .agg ⟨[.bool (decide (z < 0)), .slice p n c]⟩ ∧ IntR h [.bool (decide (z < 0)), .slice p n c] z := by
  obtain ⟨p, c, rfl, hc, hm⟩ := a.out
  exact ⟨p, _, c, rfl, p, c, rfl, hc, hm⟩
theorem Mo.mono' {α : Type} {R : Heap → List Value → α → Prop} [mo : Mo R] {h h' : Heap} {cs : List Value} {a : α} (r : R h cs a) [e : Ext h h'] : R h' cs a := mo.m e r
section
variable {α : Type} {R : Heap → List Value → α → Prop} {sz : Nat} {h : Heap} {b : Nat} {T : TypeId}
theorem Sls.lit {l : List α} {cs : List Value} (n : Nat) (hb : h b = some (Go.Z.row T cs)) (c : Cells R sz h cs l) (hn : l.length = n) : Sls R sz h (.slice (some ⟨b, 0, none⟩) n n) l :=
  Sls.of ⟨_, n, rfl, Nat.le_refl _, by rw [c.1, hn], .inr ⟨b, 0, rfl, _, T, _, hb, LookN.all _⟩⟩ c hn.symm
theorem Cells.one {u : List Value} {a : α} (ha : R h u a) (hu : u.length = sz) : Cells R sz h u [a] := by simpa using Cells.nil.snoc hu ha
theorem Cells.two {u w cs : List Value} {a c : α} (ha : R h u a) (hc : R h w c) (e : u ++ w = cs) (hu : u.length = sz) (hw : w.length = sz) : Cells R sz h cs [a, c] := by
  subst e; exact (Cells.one ha hu).snoc hw hc
end
theorem fits {l : List (Int × Int)} (h : ∀ t ∈ l, t.2.natAbs < 18446744073709551616) : ∀ t ∈ l, Fit t.2 := fun t ht => fit64 (h t ht)
theorem fitsv {l : List Int} (h : ∀ t ∈ l, t.natAbs < 18446744073709551616) : ∀ t ∈ l, Fit t := fun t ht => fit64 (h t ht)
theorem fitss {L : List (List (Int × Int))} (h : ∀ r ∈ L, ∀ t ∈ r, t.2.natAbs < 18446744073709551616) : ∀ r ∈ L, ∀ t ∈ r, Fit t.2 := fun r hr t ht => fit64 (h r hr t ht)
theorem lensT {L : List (List (Int × Int))} (h : ∀ r ∈ L, ∀ t ∈ r, Fit t.2) : ∀ r ∈ crs L, ∀ t ∈ r, t.2.2.length ≤ 9223372036854775807 := fun r hr t ht => by
  obtain ⟨r', hr', rfl⟩ := List.mem_map.1 hr
  obtain ⟨t', ht', rfl⟩ := List.mem_map.1 ht
  exact Nat.le_trans (h r' hr' t' ht') (by decide)
theorem lensR {L : List (List (Int × Int))} (h : ∀ r ∈ L, r.length ≤ 1000000) : ∀ r ∈ crs L, r.length ≤ 1000000 := fun r hr => by
  obtain ⟨r', hr', rfl⟩ := List.mem_map.1 hr
  simpa using h r' hr'
theorem limbs_last {n : Nat} (h : n ≠ 0) : (limbs n).getD ((limbs n).length - 1) 0 ≠ 0 := by
  induction n using Nat.strongRecOn with
  | _ n ih =>
    rw [limbs_pos h]
    by_cases h2 : n / Bs = 0
    · rw [h2, limbs_zero]
      have hB : Bs = 4294967296 := rfl
      simp only [List.length_cons, List.length_nil]
      show n % Bs ≠ 0
      rw [hB] at h2 ⊢; omega
    · have := ih _ (Nat.div_lt_self (Nat.pos_of_ne_zero h) (by decide)) h2
      have hl := limbs_len_pos h2
      simp only [List.length_cons]
      obtain ⟨k, hk⟩ : ∃ k, (limbs (n / Bs)).length = k + 1 := ⟨(limbs (n / Bs)).length - 1, by omega⟩
      rw [hk] at this ⊢
      simpa using this
theorem canon_int (z : Int) : canon (decide (z < 0)) (limbs z.natAbs) = true := by
  unfold canon
  by_cases h : z = 0
  · subst h; rw [show limbs (0 : Int).natAbs = [] from limbs_zero]; rfl
  · have h1 : z.natAbs ≠ 0 := by omega
    have := limbs_len_pos h1
    rw [if_neg (by omega)]
    exact decide_eq_true (limbs_last h1)
def okT (last cols : Int) (t : Int × Int) : Bool := decide (last < t.1) && decide (t.1 < cols) && decide (t.2 ≠ 0)
def okR (last cols : Int) : List (Int × Int) → Bool
  | [] => true
  | t :: r => okT last cols t && okR t.1 cols r
def validC (rows cols : Int) (L : List (List (Int × Int))) : Bool := decide (rows = L.length) && decide (0 ≤ cols) && L.all (okR (-1) cols)
theorem okTerm_tm (last cols : Int) (t : Int × Int) : okTerm last cols (tm t) = okT last cols t := by
  unfold okTerm okT tm
  simp only [canon_int, sgn_int]
  have : decide (t.2.sign ≠ 0) = decide (t.2 ≠ 0) := decide_eq_decide.2 (by rw [ne_eq, Int.sign_eq_zero_iff_zero])
  rw [this]; simp
theorem okRow_cr (cols : Int) (r : List (Int × Int)) : ∀ last, okRow last cols (cr r) = okR last cols r := by
  induction r with
  | nil => intro last; rfl
  | cons t r ih => intro last; show (okTerm last cols (tm t) && okRow t.1 cols (cr r)) = _; rw [okTerm_tm, ih]; rfl
theorem validS_crs (rows cols : Int) (L : List (List (Int × Int))) : validS rows cols (crs L) = validC rows cols L := by
  unfold validS validC okAll
  rw [List.length_map, List.all_map]
  congr 1
  congr 1
  funext r
  exact okRow_cr cols r (-1)
end Go.Z
