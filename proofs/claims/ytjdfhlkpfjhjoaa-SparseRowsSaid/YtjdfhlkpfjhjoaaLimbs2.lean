/- Plain arithmetic on lists of limbs: sums, differences, products and comparisons, limb by limb. No program is named here. -/
import Derived.Test.YtjdfhlkpfjhjoaaLimbs
set_option linter.unusedSimpArgs false
set_option linter.unusedVariables false
namespace Go.Z

theorem getD_some {l : List Nat} {i x : Nat} (h : l[i]? = some x) : l.getD i 0 = x := by simp [h]
theorem getD_none {l : List Nat} {i : Nat} (h : l.length ≤ i) : l.getD i 0 = 0 := by simp [h]
theorem val_snoc (xs : List Nat) (d : Nat) : val (xs ++ [d]) = val xs + Bs ^ xs.length * d := by rw [val_append]; simp [val]
theorem val_take_succ (l : List Nat) (i : Nat) : val (l.take (i + 1)) = val (l.take i) + Bs ^ i * l.getD i 0 := by
  rcases Nat.lt_or_ge i l.length with h | h
  · have hx : l[i]? = some l[i] := by simp [h]
    rw [List.take_add_one, hx, getD_some hx]
    simp only [Option.toList]
    rw [val_snoc, List.length_take, Nat.min_eq_left (Nat.le_of_lt h)]
  · rw [List.take_of_length_le (by omega), List.take_of_length_le h, getD_none h]; simp
theorem val_set {l : List Nat} {j old : Nat} (d : Nat) : l[j]? = some old → val (l.set j d) + Bs ^ j * old = val l + Bs ^ j * d := by
  induction l generalizing j with
  | nil => intro h; simp at h
  | cons x l ih =>
    cases j with
    | zero => intro h; simp at h; subst h; simp [val]; omega
    | succ j =>
      intro h
      have := ih (j := j) (by simpa using h)
      simp only [List.set_cons_succ, val, Nat.pow_succ]
      have e1 : Bs ^ j * Bs * old = Bs * (Bs ^ j * old) := by rw [Nat.mul_comm (Bs ^ j) Bs, Nat.mul_assoc]
      have e2 : Bs ^ j * Bs * d = Bs * (Bs ^ j * d) := by rw [Nat.mul_comm (Bs ^ j) Bs, Nat.mul_assoc]
      rw [e1, e2, Nat.add_assoc, ← Nat.mul_add, this, Nat.mul_add, Nat.add_assoc]
theorem Bd.set {l : List Nat} (h : Bd l) {j d : Nat} (hd : d < Bs) : Bd (l.set j d) := fun x hx => by
  rcases List.mem_or_eq_of_mem_set hx with h1 | rfl
  · exact h x h1
  · exact hd
theorem Bd.snoc {l : List Nat} (h : Bd l) {d : Nat} (hd : d < Bs) : Bd (l ++ [d]) := fun x hx => by
  rcases List.mem_append.1 hx with h1 | h1
  · exact h x h1
  · simp at h1; subst h1; exact hd
theorem Bd.nil : Bd [] := fun _ h => by cases h
theorem Bd.rep0 (n : Nat) : Bd (List.replicate n 0) := fun x hx => by rw [(List.mem_replicate.1 hx).2]; decide
theorem val_rep0 (n : Nat) : val (List.replicate n 0) = 0 := by
  induction n with
  | zero => rfl
  | succ n ih => simp [List.replicate_succ, val, ih]
theorem val_le_pow {l : List Nat} (h : Bd l) {k : Nat} (hk : l.length ≤ k) : val l < Bs ^ k := Nat.lt_of_lt_of_le (val_lt h) (Nat.pow_le_pow_right (by decide) hk)
theorem limbs_len {n k : Nat} : (limbs n).length ≤ k ↔ n < Bs ^ k := by
  induction k generalizing n with
  | zero =>
    simp only [Nat.le_zero_eq, List.length_eq_zero_iff, limbs_nil_iff, Nat.pow_zero]; omega
  | succ k ih =>
    by_cases h : n = 0
    · subst h; simp [limbs_zero]; exact Nat.pow_pos (by decide)
    · rw [limbs_pos h, List.length_cons, Nat.add_le_add_iff_right, ih, Nat.pow_succ, Nat.div_lt_iff_lt_mul (by decide)]
theorem limbs_len_lt {x y : Nat} (h : (limbs x).length < (limbs y).length) : x < y := by
  have h1 : x < Bs ^ (limbs x).length := limbs_len.1 (Nat.le_refl _)
  have h2 : ¬ y < Bs ^ (limbs x).length := fun h3 => by have := limbs_len.2 h3; omega
  omega
theorem limbs_inj {x y : Nat} (h : limbs x = limbs y) : x = y := by rw [← val_limbs x, h, val_limbs]
theorem digit (P s : Nat) : P * (s % Bs) + P * Bs * (s / Bs) = P * s := by
  rw [Nat.mul_assoc, ← Nat.mul_add, Nat.mod_add_div]
theorem val_split (l : List Nat) (k : Nat) (hk : k ≤ l.length) : val l = val (l.take k) + Bs ^ k * val (l.drop k) := by
  have := val_append (l.take k) (l.drop k)
  rw [List.take_append_drop, List.length_take, Nat.min_eq_left hk] at this
  exact this
/-- The first limbs that differ, from above, decide. -/
theorem val_lt_of {a b : List Nat} {i x y : Nat} (ha : Bd a) (hb : Bd b) (hab : a.drop (i + 1) = b.drop (i + 1)) (hx : a[i]? = some x) (hy : b[i]? = some y) (h : x < y) : val a < val b := by
  have hai : i < a.length := (List.getElem?_eq_some_iff.1 hx).1
  have hbi : i < b.length := (List.getElem?_eq_some_iff.1 hy).1
  rw [val_split a (i + 1) hai, val_split b (i + 1) hbi, hab, val_take_succ, val_take_succ, getD_some hx, getD_some hy]
  have h1 : val (a.take i) < Bs ^ i := val_le_pow (ha.take i) (by rw [List.length_take]; omega)
  have h2 : Bs ^ i * x + Bs ^ i ≤ Bs ^ i * y := by rw [← Nat.mul_succ]; exact Nat.mul_le_mul_left _ h
  omega

/-! ### Steps of the loops -/
theorem plus_step {a b xs : List Nat} {i cy : Nat} (hl : xs.length = i) (hv : val xs + Bs ^ i * cy = val (a.take i) + val (b.take i)) :
    val (xs ++ [(cy + a.getD i 0 + b.getD i 0) % Bs]) + Bs ^ (i + 1) * ((cy + a.getD i 0 + b.getD i 0) / Bs) = val (a.take (i + 1)) + val (b.take (i + 1)) := by
  rw [val_snoc, hl, val_take_succ, val_take_succ, Nat.pow_succ]
  have := digit (Bs ^ i) (cy + a.getD i 0 + b.getD i 0)
  rw [Nat.mul_add, Nat.mul_add] at this
  omega
theorem minus_step {a b xs : List Nat} {i bw d e : Nat} (hl : xs.length = i) (hv : val xs + val (b.take i) = val (a.take i) + Bs ^ i * bw) (hd : d + bw + b.getD i 0 = a.getD i 0 + Bs * e) :
    val (xs ++ [d]) + val (b.take (i + 1)) = val (a.take (i + 1)) + Bs ^ (i + 1) * e := by
  rw [val_snoc, hl, val_take_succ, val_take_succ, Nat.pow_succ]
  have h1 : Bs ^ i * (d + bw + b.getD i 0) = Bs ^ i * (a.getD i 0 + Bs * e) := by rw [hd]
  rw [Nat.mul_add, Nat.mul_add, Nat.mul_add, ← Nat.mul_assoc] at h1
  omega
theorem minus_end {a b xs : List Nat} {bw : Nat} (hx : Bd xs) (hl : xs.length = a.length) (hv : val xs + val b = val a + Bs ^ a.length * bw) (hba : val b ≤ val a) : val xs = val a - val b := by
  have h1 := val_lt hx
  rw [hl] at h1
  rcases Nat.eq_zero_or_pos bw with rfl | hb
  · omega
  · have : Bs ^ a.length * 1 ≤ Bs ^ a.length * bw := Nat.mul_le_mul_left _ hb
    omega
/-- One limb of the product of a row. -/
theorem mul_step {out : List Nat} {i k cy x y o W : Nat} (ho : out[i + k]? = some o) (hv : val out + Bs ^ (i + k) * cy = W) :
    val (out.set (i + k) ((cy + o + x * y) % Bs)) + Bs ^ (i + (k + 1)) * ((cy + o + x * y) / Bs) = W + Bs ^ i * x * (Bs ^ k * y) := by
  have h1 := val_set ((cy + o + x * y) % Bs) ho
  have h2 := digit (Bs ^ (i + k)) (cy + o + x * y)
  rw [Nat.mul_add, Nat.mul_add] at h2
  have h3 : Bs ^ i * x * (Bs ^ k * y) = Bs ^ (i + k) * (x * y) := by
    rw [Nat.pow_add, Nat.mul_assoc, Nat.mul_assoc, Nat.mul_left_comm x]
  rw [← Nat.add_assoc, Nat.pow_succ, h3]
  omega
theorem carry_lt {cy o x y : Nat} (h1 : cy < Bs) (h2 : o < Bs) (h3 : x < Bs) (h4 : y < Bs) : cy + o + x * y < 18446744073709551616 ∧ (cy + o + x * y) / Bs < Bs := by
  have hB : Bs = 4294967296 := rfl
  have : x * y ≤ 4294967295 * 4294967295 := Nat.mul_le_mul (by omega) (by omega)
  have : cy + o + x * y < 18446744073709551616 := by omega
  exact ⟨this, by rw [Nat.div_lt_iff_lt_mul (by decide), hB]; exact this⟩
theorem val_take_le (l : List Nat) (k : Nat) : val (l.take k) ≤ val l := by
  rcases Nat.lt_or_ge k l.length with h | h
  · rw [val_split l k (Nat.le_of_lt h)]; exact Nat.le_add_right _ _
  · rw [List.take_of_length_le h]; exact Nat.le_refl _
/-- A carry at this place leaves room for it. -/
theorem mul_bound {a b out : List Nat} {i k cy : Nat} (ha : Bd a) (hb : Bd b) (hi : i < a.length) (hv : val out + Bs ^ (i + k) * cy = val (a.take i) * val b + Bs ^ i * a.getD i 0 * val (b.take k)) (hc : 0 < cy) : k < b.length + 1 := by
  have h1 : Bs ^ i * a.getD i 0 * val (b.take k) ≤ Bs ^ i * a.getD i 0 * val b := Nat.mul_le_mul_left _ (val_take_le b k)
  have h2 : val (a.take (i + 1)) * val b = val (a.take i) * val b + Bs ^ i * a.getD i 0 * val b := by rw [val_take_succ, Nat.add_mul]
  have h3 : val (a.take (i + 1)) * val b < Bs ^ (i + 1) * Bs ^ b.length := Nat.mul_lt_mul_of_lt_of_le (val_le_pow (ha.take _) (by rw [List.length_take]; omega)) (Nat.le_of_lt (val_lt hb)) (Nat.pow_pos (by decide))
  rw [← Nat.pow_add] at h3
  have h4 : Bs ^ (i + k) * 1 ≤ Bs ^ (i + k) * cy := Nat.mul_le_mul_left _ hc
  have h5 : Bs ^ (i + k) < Bs ^ (i + 1 + b.length) := by omega
  have := (Nat.pow_lt_pow_iff_right (by decide : 1 < Bs)).1 h5
  omega
theorem mul_sign (x y : Int) : (if (!(decide (x < 0) == decide (y < 0))) = true then -((x.natAbs * y.natAbs : Nat) : Int) else ((x.natAbs * y.natAbs : Nat) : Int)) = x * y := by
  rcases (show x < 0 ∨ 0 ≤ x by omega) with hx | hx <;> rcases (show y < 0 ∨ 0 ≤ y by omega) with hy | hy
  · obtain ⟨a, rfl⟩ : ∃ a : Nat, x = -(a : Int) := ⟨x.natAbs, by omega⟩
    obtain ⟨b, rfl⟩ : ∃ b : Nat, y = -(b : Int) := ⟨y.natAbs, by omega⟩
    rw [decide_eq_true hx, decide_eq_true hy]; simp [Int.neg_mul, Int.mul_neg]
  · obtain ⟨a, rfl⟩ : ∃ a : Nat, x = -(a : Int) := ⟨x.natAbs, by omega⟩
    obtain ⟨b, rfl⟩ : ∃ b : Nat, y = (b : Int) := ⟨y.natAbs, by omega⟩
    rw [decide_eq_true hx, decide_eq_false (show ¬ ((b : Int) < 0) by omega)]; simp [Int.neg_mul, Int.mul_neg]
  · obtain ⟨a, rfl⟩ : ∃ a : Nat, x = (a : Int) := ⟨x.natAbs, by omega⟩
    obtain ⟨b, rfl⟩ : ∃ b : Nat, y = -(b : Int) := ⟨y.natAbs, by omega⟩
    rw [decide_eq_true hy, decide_eq_false (show ¬ ((a : Int) < 0) by omega)]; simp [Int.neg_mul, Int.mul_neg]
  · obtain ⟨a, rfl⟩ : ∃ a : Nat, x = (a : Int) := ⟨x.natAbs, by omega⟩
    obtain ⟨b, rfl⟩ : ∃ b : Nat, y = (b : Int) := ⟨y.natAbs, by omega⟩
    simp [show ¬ ((a : Int) < 0) by omega, show ¬ ((b : Int) < 0) by omega]
/-- The highest bit. -/
theorem bit31 {x : Nat} (h : x < 4294967296) : x / 2147483648 = (x.testBit 31).toNat := by
  rw [Nat.toNat_testBit]
  have : x / 2 ^ 31 < 2 := by rw [Nat.div_lt_iff_lt_mul (by decide)]; exact h
  rw [Nat.mod_eq_of_lt this]
theorem tb31 {x : Nat} (h : x < 4294967296) : x.testBit 31 = decide (2147483648 ≤ x) := by
  have h1 := bit31 h
  cases hb : x.testBit 31 with
  | false => rw [hb] at h1; simp at h1; simp; omega
  | true => rw [hb] at h1; simp at h1; simp; omega
theorem borrow {x y c d : Nat} (hx : x < 4294967296) (hy : y < 4294967296) (hd : d < 4294967296) (hc : c ≤ 1) (he : (x + 4294967296 * 2 - y - c) % 4294967296 = d) :
    (((4294967295 ^^^ x) &&& y) ||| ((4294967295 ^^^ (x ^^^ y)) &&& d)) / 2147483648 = if x < y + c then 1 else 0 := by
  have hxy : x ^^^ y < 2 ^ 32 := Nat.xor_lt_two_pow hx hy
  have h1 : 4294967295 ^^^ x < 2 ^ 32 := Nat.xor_lt_two_pow (by decide) hx
  have h2 : 4294967295 ^^^ (x ^^^ y) < 2 ^ 32 := Nat.xor_lt_two_pow (by decide) hxy
  have h3 : ((4294967295 ^^^ x) &&& y) ||| ((4294967295 ^^^ (x ^^^ y)) &&& d) < 2 ^ 32 := Nat.or_lt_two_pow (Nat.and_lt_two_pow _ hy) (Nat.and_lt_two_pow _ hd)
  rw [bit31 h3]
  simp only [Nat.testBit_or, Nat.testBit_and, Nat.testBit_xor]
  rw [tb31 hx, tb31 hy, tb31 hd, show (4294967295 : Nat).testBit 31 = true by decide]
  by_cases a1 : 2147483648 ≤ x <;> by_cases a2 : 2147483648 ≤ y <;> by_cases a3 : 2147483648 ≤ d <;> by_cases a4 : x < y + c <;> simp [a1, a2, a3, a4] <;> omega
/-- A step of a sum in place. -/
theorem plus2_step {a b out : List Nat} {i cy : Nat} (hl : i < out.length) (hv : val (out.take i) + Bs ^ i * cy = val (a.take i) + val (b.take i)) :
    val ((out.set i ((a.getD i 0 + b.getD i 0 + cy) % Bs)).take (i + 1)) + Bs ^ (i + 1) * ((a.getD i 0 + b.getD i 0 + cy) / Bs) = val (a.take (i + 1)) + val (b.take (i + 1)) := by
  rw [val_take_succ, val_take_succ, val_take_succ, Nat.pow_succ]
  have h1 : (out.set i ((a.getD i 0 + b.getD i 0 + cy) % Bs)).getD i 0 = (a.getD i 0 + b.getD i 0 + cy) % Bs := by simp [List.getElem?_set_self hl]
  rw [h1, List.take_set_of_le (Nat.le_refl i)]
  have := digit (Bs ^ i) (a.getD i 0 + b.getD i 0 + cy)
  rw [Nat.mul_add, Nat.mul_add] at this
  omega
theorem minus2_step {a b out : List Nat} {i bw d e : Nat} (hl : i < out.length) (hv : val (out.take i) + val (b.take i) = val (a.take i) + Bs ^ i * bw) (hd : d + bw + b.getD i 0 = a.getD i 0 + Bs * e) :
    val ((out.set i d).take (i + 1)) + val (b.take (i + 1)) = val (a.take (i + 1)) + Bs ^ (i + 1) * e := by
  rw [val_take_succ, val_take_succ, val_take_succ, Nat.pow_succ]
  have h0 : (out.set i d).getD i 0 = d := by simp [List.getElem?_set_self hl]
  rw [h0, List.take_set_of_le (Nat.le_refl i)]
  have h1 : Bs ^ i * (d + bw + b.getD i 0) = Bs ^ i * (a.getD i 0 + Bs * e) := by rw [hd]
  rw [Nat.mul_add, Nat.mul_add, Nat.mul_add, ← Nat.mul_assoc] at h1
  omega
end Go.Z
