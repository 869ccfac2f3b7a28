/- Plain laws about rows: a sorted row is its coefficients; what merging does to them. No program is named here. -/
import Derived.Test.YtjdfhlkpfjhjoaaSp10
set_option linter.unusedSimpArgs false
set_option linter.unusedVariables false
namespace Go.Z
def co : List (Int × Int) → Int → Int
  | [], _ => 0
  | t :: r, c => if t.1 = c then t.2 else co r c
/-- Sorted, beyond x, no zeros. -/
def so (x : Int) : List (Int × Int) → Prop
  | [] => True
  | t :: r => x < t.1 ∧ t.2 ≠ 0 ∧ so t.1 r
theorem so_mono {l : List (Int × Int)} {x y : Int} (h : x ≤ y) (s : so y l) : so x l := by
  cases l with
  | nil => trivial
  | cons t r => exact ⟨by have := s.1; omega, s.2⟩
theorem co_low {l : List (Int × Int)} : ∀ {x c : Int}, so x l → c ≤ x → co l c = 0 := by
  induction l with
  | nil => intro x c _ _; rfl
  | cons t r ih =>
    intro x c s h
    have := s.1
    rw [co, if_neg (by omega)]
    exact ih s.2.2 (by omega)
theorem co_mem {l : List (Int × Int)} : ∀ {x : Int}, so x l → ∀ t ∈ l, co l t.1 = t.2 := by
  induction l with
  | nil => intro x _ t ht; cases ht
  | cons u r ih =>
    intro x s t ht
    rcases List.mem_cons.1 ht with rfl | h
    · rw [co, if_pos rfl]
    · by_cases e : u.1 = t.1
      · have := co_low s.2.2 (Int.le_of_eq e.symm)
        rw [ih s.2.2 t h] at this
        have hne : t.2 ≠ 0 := by
          clear ih
          have key : ∀ (l : List (Int × Int)) (x : Int), so x l → ∀ t ∈ l, t.2 ≠ 0 := by
            intro l
            induction l with
            | nil => intro x _ t ht; cases ht
            | cons v r ih => intro x s t ht; rcases List.mem_cons.1 ht with rfl | h; exact s.2.1; exact ih _ s.2.2 t h
          exact key r _ s.2.2 t h
        exact absurd this hne
      · rw [co, if_neg e]; exact ih s.2.2 t h
theorem so_ext {l : List (Int × Int)} : ∀ {m : List (Int × Int)} {x : Int}, so x l → so x m → (∀ c, co l c = co m c) → l = m := by
  induction l with
  | nil =>
    intro m x _ s h
    cases m with
    | nil => rfl
    | cons u r => have := h u.1; rw [co, co, if_pos rfl] at this; exact absurd this.symm s.2.1
  | cons t r ih =>
    intro m x s s2 h
    cases m with
    | nil =>
      have h0 : co (t :: r) t.1 = t.2 := if_pos rfl
      rw [h t.1] at h0
      exact absurd h0.symm s.2.1
    | cons u q =>
      have h1 := h t.1
      have h2 := h u.1
      rw [co, if_pos rfl, co] at h1
      rw [co, co, if_pos rfl] at h2
      rcases Int.lt_trichotomy t.1 u.1 with e | e | e
      · rw [if_neg (by omega), co_low s2.2.2 (by omega)] at h1; exact absurd h1 s.2.1
      · rw [if_pos e.symm] at h1
        have htu : t = u := Prod.ext e h1
        subst htu
        rw [ih s.2.2 s2.2.2 fun c => ?_]
        by_cases ec : t.1 = c
        · rw [co_low s.2.2 (by omega), co_low s2.2.2 (by omega)]
        · have := h c; rwa [co, if_neg ec, co, if_neg ec] at this
      · rw [if_neg (by omega), co_low s.2.2 (by omega)] at h2; exact absurd h2.symm s2.2.1
theorem so_keep {c v x : Int} {r : List (Int × Int)} (h : x < c) (s : so c r) : so x (keep (c, v) ++ r) := by
  by_cases e : v = 0
  · rw [keep_zero e]; exact so_mono (by omega) s
  · rw [keep_pos e]; exact ⟨h, e, s⟩
theorem co_keep {c v : Int} {r : List (Int × Int)} (s : so c r) (d : Int) : co (keep (c, v) ++ r) d = if c = d then v else co r d := by
  by_cases e : v = 0
  · rw [keep_zero e]
    by_cases ec : c = d
    · rw [if_pos ec, e]; exact co_low s (by omega)
    · rw [if_neg ec]; rfl
  · rw [keep_pos e]; rfl
theorem merge_law (k : Int) : ∀ (n : Nat) (a b : List (Int × Int)) (x : Int), a.length + b.length ≤ n → so x a → so x b → so x (mergeL k a b) ∧ ∀ c, co (mergeL k a b) c = co a c + k * co b c := by
  intro n
  induction n with
  | zero =>
    intro a b x hn sa sb
    obtain rfl : a = [] := List.eq_nil_of_length_eq_zero (by omega)
    obtain rfl : b = [] := List.eq_nil_of_length_eq_zero (by omega)
    rw [mergeL]; exact ⟨trivial, fun c => by simp [co]⟩
  | succ n ih =>
    intro a b x hn sa sb
    match a, b with
    | [], [] => rw [mergeL]; exact ⟨trivial, fun c => by simp [co]⟩
    | [], u :: m =>
      obtain ⟨h1, h2⟩ := ih [] m u.1 (by simp at hn ⊢; omega) trivial sb.2.2
      rw [mergeL_nb]
      refine ⟨so_keep sb.1 h1, fun c => ?_⟩
      rw [co_keep h1, h2]
      show _ = co [] c + k * (if u.1 = c then u.2 else co m c)
      split <;> simp [co]
    | t :: l, [] =>
      obtain ⟨h1, h2⟩ := ih l [] t.1 (by simp at hn ⊢; omega) sa.2.2 trivial
      rw [mergeL_an]
      refine ⟨so_keep sa.1 h1, fun c => ?_⟩
      rw [co_keep h1, h2]
      show _ = (if t.1 = c then t.2 else co l c) + k * co [] c
      split <;> simp [co]
    | t :: l, u :: m =>
      rcases Int.lt_trichotomy t.1 u.1 with e | e | e
      · obtain ⟨h1, h2⟩ := ih l (u :: m) t.1 (by simp at hn ⊢; omega) sa.2.2 ⟨e, sb.2⟩
        rw [mergeL_lt k t u l m e]
        refine ⟨so_keep sa.1 h1, fun c => ?_⟩
        rw [co_keep h1, h2]
        show _ = (if t.1 = c then t.2 else co l c) + k * co (u :: m) c
        split
        · rw [co_low (l := u :: m) (x := t.1) ⟨e, sb.2⟩ (by omega)]
        · rfl
      · obtain ⟨h1, h2⟩ := ih l m t.1 (by simp at hn ⊢; omega) sa.2.2 (e ▸ sb.2.2)
        rw [mergeL_eq k t u l m e]
        refine ⟨so_keep sa.1 h1, fun c => ?_⟩
        rw [co_keep h1, h2]
        show _ = (if t.1 = c then t.2 else co l c) + k * (if u.1 = c then u.2 else co m c)
        rw [← e]
        split <;> rfl
      · obtain ⟨h1, h2⟩ := ih (t :: l) m u.1 (by simp at hn ⊢; omega) ⟨e, sa.2⟩ sb.2.2
        rw [mergeL_gt k t u l m e]
        refine ⟨so_keep sb.1 h1, fun c => ?_⟩
        rw [co_keep h1, h2]
        show _ = co (t :: l) c + k * (if u.1 = c then u.2 else co m c)
        split
        · rw [co_low (l := t :: l) (x := u.1) ⟨e, sa.2⟩ (by omega)]
        · rfl
theorem so_merge {k x : Int} {a b : List (Int × Int)} (sa : so x a) (sb : so x b) : so x (mergeL k a b) := (merge_law k _ a b x (Nat.le_refl _) sa sb).1
theorem co_merge {k x : Int} {a b : List (Int × Int)} (sa : so x a) (sb : so x b) (c : Int) : co (mergeL k a b) c = co a c + k * co b c := (merge_law k _ a b x (Nat.le_refl _) sa sb).2 c
/-- Bounds. -/
theorem co_bnd {l : List (Int × Int)} {N : Nat} (h : ∀ t ∈ l, t.2.natAbs ≤ N) (c : Int) : (co l c).natAbs ≤ N := by
  induction l with
  | nil => simp [co]
  | cons t r ih =>
    rw [co]; split
    · exact h t (by simp)
    · exact ih fun u hu => h u (by simp [hu])
theorem merge_bnd {k x : Int} {a b : List (Int × Int)} {A B K : Nat} (sa : so x a) (sb : so x b) (ha : ∀ t ∈ a, t.2.natAbs ≤ A) (hb : ∀ t ∈ b, t.2.natAbs ≤ B) (hk : k.natAbs ≤ K) : ∀ t ∈ mergeL k a b, t.2.natAbs ≤ A + K * B := fun t ht => by
  rw [← co_mem (so_merge sa sb) t ht, co_merge sa sb]
  have h1 := co_bnd ha t.1
  have h2 := co_bnd hb t.1
  have h3 : (k * co b t.1).natAbs ≤ K * B := by rw [Int.natAbs_mul]; exact Nat.mul_le_mul hk h2
  have := Int.natAbs_add_le (co a t.1) (k * co b t.1)
  omega
def below (n : Int) (l : List (Int × Int)) : Prop := ∀ c, n ≤ c → co l c = 0
theorem okR_so {l : List (Int × Int)} : ∀ {x n : Int}, so x l → below n l → okR x n l = true := by
  induction l with
  | nil => intro x n _ _; rfl
  | cons t r ih =>
    intro x n s hb
    have ht : t.1 < n := by
      rcases (show t.1 < n ∨ n ≤ t.1 by omega) with h | h
      · exact h
      · have := hb t.1 h; rw [co, if_pos rfl] at this; exact absurd this s.2.1
    have hr : below n r := fun c hc => by
      have := hb c hc
      rw [co, if_neg (by omega)] at this; exact this
    show (okT x n t && okR t.1 n r) = true
    rw [ih s.2.2 hr]
    simp [okT, s.1, ht, s.2.1]
theorem spk (v : List Int) : ∀ k : Nat, so ((k : Int) - 1) (((v.zipIdx k).filter (fun p => decide (p.1 ≠ 0))).map fun p => ((p.2 : Int), p.1)) ∧ below ((k : Int) + v.length) (((v.zipIdx k).filter (fun p => decide (p.1 ≠ 0))).map fun p => ((p.2 : Int), p.1)) ∧
    ∀ t ∈ (((v.zipIdx k).filter (fun p => decide (p.1 ≠ 0))).map fun p => ((p.2 : Int), p.1)), t.2 ∈ v := by
  induction v with
  | nil => intro k; exact ⟨trivial, fun c _ => rfl, fun t ht => by cases ht⟩
  | cons z v ih =>
    intro k
    obtain ⟨h1, h2, h3⟩ := ih (k + 1)
    have e : (((z :: v).zipIdx k).filter (fun p => decide (p.1 ≠ 0))).map (fun p => ((p.2 : Int), p.1)) = keep ((k : Int), z) ++ (((v.zipIdx (k + 1)).filter (fun p => decide (p.1 ≠ 0))).map fun p => ((p.2 : Int), p.1)) := by
      rw [List.zipIdx_cons, List.filter_cons]
      by_cases hz : z = 0
      · rw [keep_zero hz]; simp [hz]
      · rw [keep_pos hz]; simp [hz]
    have h1' : so (k : Int) (((v.zipIdx (k + 1)).filter (fun p => decide (p.1 ≠ 0))).map fun p => ((p.2 : Int), p.1)) := by
      have : ((k + 1 : Nat) : Int) - 1 = k := by omega
      rwa [this] at h1
    rw [e]
    refine ⟨so_keep (by omega) h1', fun c hc => ?_, fun t ht => ?_⟩
    · rw [co_keep h1', if_neg (by rw [List.length_cons] at hc; omega)]
      exact h2 c (by rw [List.length_cons] at hc; omega)
    · rcases List.mem_append.1 ht with h | h
      · by_cases hz : z = 0
        · rw [keep_zero hz] at h; cases h
        · rw [keep_pos hz] at h; simp at h; subst h; simp
      · exact List.mem_cons_of_mem _ (h3 t h)
theorem so_sprow (v : List Int) : so (-1) (sprow v) := by have := (spk v 0).1; simpa [sprow] using this
theorem below_sprow (v : List Int) : below v.length (sprow v) := by have := (spk v 0).2.1; simpa [sprow] using this
theorem mem_sprow (v : List Int) : ∀ t ∈ sprow v, t.2 ∈ v := by have := (spk v 0).2.2; simpa [sprow] using this
theorem below_merge {k x n : Int} {a b : List (Int × Int)} (sa : so x a) (sb : so x b) (ha : below n a) (hb : below n b) : below n (mergeL k a b) := fun c hc => by
  rw [co_merge sa sb, ha c hc, hb c hc]; simp
end Go.Z
