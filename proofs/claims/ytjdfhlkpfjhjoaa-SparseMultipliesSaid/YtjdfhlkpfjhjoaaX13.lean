/- Texts of ours, joined: Open, Open6. -/
import Derived.Test.YtjdfhlkpfjhjoaaX3
import Derived.Deep.Slices
import Derived.ProofKit
import Derived.Test.YtjdfhlkpfjhjoaaChecked
section
set_option linter.unusedSimpArgs false
set_option linter.unusedVariables false
/- How the arguments of a call are opened: what the model's reading of a value says, as rows and matrices in frozen memory. No program is named here. -/
set_option linter.unusedSimpArgs false
set_option linter.unusedVariables false
namespace Go.Z
open Go Go.RowKit

/-- All memory at the call. -/
def HW (W : World) : Heap := fun b => W.heap[b]?
section
variable {W : World} {base : Nat} {α : Type} {R : Heap → List Value → α → Prop} {sz : Nat}
theorem cell_row {b o : Nat} {v : Value} (h : W.cell? ⟨b, o, none⟩ = some v) : ∃ l T fr, W.heap[b]? = some (.cells ⟨l⟩ T fr) ∧ l[o]? = some v := by
  unfold World.cell? at h
  split at h
  · rename_i c T fr hc
    refine ⟨c.toList, T, fr, hc, ?_⟩
    simpa using h
  · cases h
theorem cells_row {b o : Nat} {cs : List Value} (hn : 0 < cs.length) (h : ∀ k, k < cs.length → W.cell? ⟨b, o + k, none⟩ = cs[k]?) : CellN (HW W) b o cs := by
  obtain ⟨v, hv⟩ := lt_get hn
  have h0 := h 0 hn
  rw [hv] at h0
  obtain ⟨l, T, fr, hb, _⟩ := cell_row h0
  refine ⟨l, T, fr, hb, LookN.of_get fun j u hu => ?_⟩
  have hj : j < cs.length := (List.getElem?_eq_some_iff.1 hu).1
  have h1 := h j hj
  rw [hu] at h1
  obtain ⟨l', T', fr', hb', hl'⟩ := cell_row h1
  rw [hb] at hb'
  cases hb'
  exact hl'
/-- A slice of elements, opened one by one. -/
theorem sls_open {a : Addr} {len cap : Nat} (hz : 0 < sz) (hlc : len ≤ cap) (Pr : α → Prop) (el : ∀ i, i < len → ∃ cs' x, W.cells? base (a.add (i * sz)) sz = some cs' ∧ R (HW W) cs' x ∧ Pr x) :
    ∃ l, l.length = len ∧ Sls R sz (HW W) (.slice (some a) len cap) l ∧ ∀ x ∈ l, Pr x := by
  rcases Nat.eq_zero_or_pos len with rfl | hpos
  · exact ⟨[], rfl, ⟨[], ⟨_, cap, rfl, hlc, by simp, .inl ⟨rfl, fun _ _ => trivial⟩⟩, Cells.nil⟩, fun x hx => by cases hx⟩
  · have hspot : a.spot = none := by
      obtain ⟨cs', x, h1, _, _⟩ := el 0 hpos
      obtain ⟨_, hl, hc⟩ := World.cells?_some h1
      obtain ⟨v, hv⟩ := lt_get (l := cs') (i := 0) (by omega)
      have := hc 0 hz
      rw [hv] at this
      have := World.cell?_spot this
      simpa [Addr.add] using this
    obtain ⟨b, o, sp⟩ := a
    simp only at hspot
    subst hspot
    have key : ∀ n, n ≤ len → ∃ (cs : List Value) (l : List α), l.length = n ∧ Cells R sz (HW W) cs l ∧ (∀ k, k < cs.length → W.cell? ⟨b, o + k, none⟩ = cs[k]?) ∧ ∀ x ∈ l, Pr x := by
      intro n
      induction n with
      | zero => exact fun _ => ⟨[], [], rfl, Cells.nil, fun k hk => by simp at hk, fun x hx => by cases hx⟩
      | succ n ih =>
        intro hn
        obtain ⟨cs, l, hl, hc, hk, hp⟩ := ih (by omega)
        obtain ⟨cs', x, h1, hR, hpx⟩ := el n (by omega)
        obtain ⟨_, hl', hc'⟩ := World.cells?_some h1
        have hcl : cs.length = n * sz := by rw [hc.1, hl]
        refine ⟨cs ++ cs', l ++ [x], by simp [hl], hc.snoc hl' hR, fun k hk2 => ?_, fun y hy => ?_⟩
        · rcases Nat.lt_or_ge k cs.length with h3 | h3
          · rw [List.getElem?_append_left h3]; exact hk k h3
          · rw [List.getElem?_append_right h3]
            have h4 := hc' (k - cs.length) (by rw [List.length_append] at hk2; omega)
            rw [add_none, add_none] at h4
            rw [← h4]
            congr 2
            omega
        · rcases List.mem_append.1 hy with h3 | h3
          · exact hp y h3
          · simp at h3; subst h3; exact hpx
    obtain ⟨cs, l, hl, hc, hk, hp⟩ := key len (Nat.le_refl _)
    have hcl : cs.length = len * sz := by rw [hc.1, hl]
    refine ⟨l, hl, ⟨cs, ⟨_, cap, by rw [hl], by omega, by rw [hl, hcl], .inr ⟨b, o, rfl, cells_row ?_ hk⟩⟩, hc⟩, hp⟩
    rw [hcl]; exact Nat.mul_pos hpos hz
end
def LimbR (h : Heap) (cs : List Value) (x : Nat) : Prop := cs = [.int .u32 (x : Int)] ∧ x < Bs
theorem mag_of {h : Heap} {v : Value} {l : List Nat} (s : Sls LimbR 1 h v l) : MagAt h v l := by
  obtain ⟨cs, h1, h2⟩ := s
  have e : cs = u32s l := by
    refine List.ext_getElem? fun i => ?_
    rcases Nat.lt_or_ge i l.length with hi | hi
    · obtain ⟨x, hx⟩ := lt_get hi
      have := (h2.2 i x hx).1
      have h3 := congrArg (fun t : List Value => t[0]?) this
      simp only [List.getElem?_take, List.getElem?_drop] at h3
      rw [u32s_get hx]
      simpa using h3
    · rw [List.getElem?_eq_none (by rw [h2.1]; omega), List.getElem?_eq_none (by rw [u32s_len]; omega)]
  subst e
  exact ⟨h1, fun x hx => by
    obtain ⟨i, hi⟩ := List.mem_iff_getElem?.1 hx
    exact (h2.2 i x hi).2⟩

section
variable {H : Type} {enc : TypeId × Value → H} {P : Program} {W : World} {base : Nat} {spare : Nat → Bool} {held : Bool}
theorem wf_u32 {n : Int} (h : (Lit.int .u32 n).wf = true) : 0 ≤ n ∧ n ≤ 4294967295 := by
  simp only [Lit.wf, Bool.and_eq_true, decide_eq_true_eq] at h
  exact ⟨by simpa [IntKind.min, IntKind.signed] using h.1, by have := h.2; simp [IntKind.max, IntKind.signed, IntKind.bits] at this; omega⟩
theorem open_mag {t e : TypeId} {fuel : Nat} {cs : List Value} {x : DataW H × List MemPlace} (ht : P.underlying t = some (.slice e)) (he : P.underlying e = some (.int .u32)) (hc : P.cellsOf e = 1)
    (h : DataW.trod enc P W base spare held fuel t cs = some x) : ∃ p c l, cs = [.slice p l.length c] ∧ l.length ≤ c ∧ l.length ≤ maxLen ∧ MagAt (HW W) (.slice p l.length c) l := by
  rcases Go.Deep.open_slice ht h with ⟨rfl, _⟩ | ⟨a, len, cap, m, n, D, Pl, rfl, _, hl, hm, hmm, _, hx⟩
  · exact ⟨none, 0, [], rfl, Nat.le_refl _, Nat.zero_le _, MagAt.nil _⟩
  · rw [hc] at hx
    obtain ⟨l, hll, hs, _⟩ := sls_open (R := LimbR) (W := W) (base := base) (a := a) (sz := 1) (by decide) hl (fun _ => True) (fun i hi => by
      obtain ⟨cs', h1, h2⟩ := hx i (by rw [hmm]; split <;> omega)
      obtain ⟨z, rfl, _, hw⟩ := DataW.trod_int he h2
      have := wf_u32 hw
      have hB : Bs = 4294967296 := rfl
      exact ⟨_, z.toNat, h1, ⟨by rw [Int.toNat_of_nonneg this.1], by omega⟩, trivial⟩)
    subst hll
    exact ⟨some a, cap, l, rfl, hl, by omega, mag_of hs⟩
/-- A struct's fields: their types and where they begin. -/
def stN (P : Program) (t : TypeId) : Option (List (Nat × Nat)) :=
  match P.underlying t with
  | some (.struct fs) => some (fs.toList.map fun f => (f.type, f.offset))
  | _ => none
theorem open_fields {t : TypeId} {fl : List (Nat × Nat)} {fuel : Nat} {cs : List Value} {x : DataW H × List MemPlace} (ht : stN P t = some fl) (h : DataW.trod enc P W base spare held fuel t cs = some x) :
    cs.length = P.cellsOf t ∧ ∃ n, ∀ (i ty off : Nat), fl[i]? = some (ty, off) → ∃ y, DataW.trod enc P W base spare held n ty ((cs.drop off).take (P.cellsOf ty)) = some y := by
  unfold stN at ht
  split at ht
  · rename_i fs hu
    cases ht
    obtain ⟨xs, n, _, rfl, hl, hlen, hf⟩ := DataW.trod_struct hu h
    refine ⟨hl, n, fun i ty off hi => ?_⟩
    rw [List.getElem?_map] at hi
    cases e : fs.toList[i]? with
    | none => rw [e] at hi; cases hi
    | some f =>
      rw [e] at hi
      simp only [Option.map_some, Option.some.injEq, Prod.mk.injEq] at hi
      have e2 : fs[i]? = some f := by simpa using e
      have hx := hf i f e2
      have hi2 : i < xs.length := by rw [hlen]; exact (Array.getElem?_eq_some_iff.1 e2).1
      rw [hi.1, hi.2] at hx
      exact ⟨xs[i], by rw [hx]; simp [hi2]⟩
  · cases ht
/-- An integer's cells. -/
theorem open_raw {t tb ts e : TypeId} {fuel : Nat} {cs : List Value} {x : DataW H × List MemPlace} (ht : stN P t = some [(tb, 0), (ts, 1)]) (hcs : P.cellsOf t = 2)
    (h0 : P.underlying tb = some .bool ∧ P.cellsOf tb = 1) (h1 : P.underlying ts = some (.slice e) ∧ P.cellsOf ts = 1) (he : P.underlying e = some (.int .u32)) (hc : P.cellsOf e = 1)
    (h : DataW.trod enc P W base spare held fuel t cs = some x) : ∃ neg p c l, cs = [.bool neg, .slice p l.length c] ∧ l.length ≤ c ∧ l.length ≤ maxLen ∧ MagAt (HW W) (.slice p l.length c) l := by
  obtain ⟨hlen, n, hf⟩ := open_fields ht h
  rw [hcs] at hlen
  obtain ⟨y0, g0⟩ := hf 0 _ _ rfl
  obtain ⟨y1, g1⟩ := hf 1 _ _ rfl
  match cs, hlen with
  | [c0, c1], _ =>
    rw [h0.2] at g0
    rw [h1.2] at g1
    obtain ⟨neg, e0, _⟩ := DataW.trod_bool h0.1 g0
    obtain ⟨p, c, l, e1, k1, k2, k3⟩ := open_mag h1.1 he hc g1
    simp at e0 e1
    subst e0 e1
    exact ⟨neg, p, c, l, rfl, k1, k2, k3⟩
/-- A term's cells. -/
theorem open_term {t ti tv tb ts e : TypeId} {fuel : Nat} {cs : List Value} {x : DataW H × List MemPlace} (ht : stN P t = some [(ti, 0), (tv, 1)]) (hcs : P.cellsOf t = 3) (hi : P.underlying ti = some (.int .i64) ∧ P.cellsOf ti = 1)
    (hv : stN P tv = some [(tb, 0), (ts, 1)]) (hvs : P.cellsOf tv = 2) (h0 : P.underlying tb = some .bool ∧ P.cellsOf tb = 1) (h1 : P.underlying ts = some (.slice e) ∧ P.cellsOf ts = 1) (he : P.underlying e = some (.int .u32)) (hc : P.cellsOf e = 1)
    (h : DataW.trod enc P W base spare held fuel t cs = some x) : ∃ r : RT, TermR (HW W) cs r ∧ r.2.2.length ≤ maxLen := by
  obtain ⟨hlen, n, hf⟩ := open_fields ht h
  rw [hcs] at hlen
  obtain ⟨y0, g0⟩ := hf 0 _ _ rfl
  obtain ⟨y1, g1⟩ := hf 1 _ _ rfl
  match cs, hlen with
  | [c0, c1, c2], _ =>
    rw [hi.2] at g0
    rw [hvs] at g1
    obtain ⟨z, e0, _⟩ := DataW.trod_int hi.1 g0
    obtain ⟨neg, p, c, l, e1, k1, k2, k3⟩ := open_raw hv hvs h0 h1 he hc g1
    simp at e0 e1
    obtain ⟨e1, e2⟩ := e1
    subst e0 e1 e2
    exact ⟨(z, neg, l), ⟨p, c, rfl, k1, k3⟩, k2⟩
/-- A slice of elements. -/
theorem open_sls {α : Type} {R : Heap → List Value → α → Prop} {Pr : α → Prop} {t e : TypeId} {sz fuel : Nat} {cs : List Value} {x : DataW H × List MemPlace} (ht : P.underlying t = some (.slice e)) (hc : P.cellsOf e = sz) (hz : 0 < sz)
    (el : ∀ n cs' y, DataW.trod enc P W base spare held n e cs' = some y → ∃ a, R (HW W) cs' a ∧ Pr a) (h : DataW.trod enc P W base spare held fuel t cs = some x) :
    ∃ p c l, cs = [.slice p l.length c] ∧ Sls R sz (HW W) (.slice p l.length c) l ∧ ∀ a ∈ l, Pr a := by
  rcases Go.Deep.open_slice ht h with ⟨rfl, _⟩ | ⟨a, len, cap, m, n, D, Pl, rfl, _, hl, hm, hmm, _, hx⟩
  · exact ⟨none, 0, [], rfl, Sls.nil _, fun a ha => by cases ha⟩
  · rw [hc] at hx
    obtain ⟨l, hll, hs, hp⟩ := sls_open (R := R) (W := W) (base := base) (a := a) (sz := sz) hz hl Pr (fun i hi => by
      obtain ⟨cs', h1, h2⟩ := hx i (by rw [hmm]; split <;> omega)
      obtain ⟨b, hb1, hb2⟩ := el _ _ _ h2
      exact ⟨_, b, h1, hb1, hb2⟩)
    subst hll
    exact ⟨some a, cap, l, rfl, hs, hp⟩
end
end Go.Z
end
section
set_option linter.unusedSimpArgs false
set_option linter.unusedVariables false
/- Opening the law's arguments: bytes and raw matrices. -/
set_option linter.unusedSimpArgs false
set_option linter.unusedVariables false
namespace Go.Z
open Go Go.RowKit Go.Proofs
section
variable {H : Type} {enc : TypeId × Value → H} {W : World} {base : Nat} {spare : Nat → Bool} {held : Bool} {fuel : Nat} {x : DataW H × List MemPlace}
set_option maxRecDepth 100000 in
theorem open_i8s {cs : List Value} (h : DataW.trod enc Try.prog W base spare held fuel 28 cs = some x) : ∃ p c l, cs = [.slice p l.length c] ∧ Sls (KR .i8) 1 (HW W) (.slice p l.length c) l := by
  obtain ⟨p, c, l, e, hs, _⟩ := open_sls (R := KR .i8) (Pr := fun _ : Int => True) (e := 29) (sz := 1) (by kernel_rfl) (by kernel_rfl) (by decide) (fun n cs' y hy => by
    obtain ⟨z, rfl, _, hw⟩ := DataW.trod_int (k := .i8) (by kernel_rfl) hy
    exact ⟨z, rfl, trivial⟩) h
  exact ⟨p, c, l, e, hs⟩
theorem wf_u8 {n : Int} (h : (Lit.int .u8 n).wf = true) : 0 ≤ n ∧ n ≤ 255 := by
  simp only [Lit.wf, Bool.and_eq_true, decide_eq_true_eq] at h
  have h1 := h.1
  have h2 := h.2
  simp [IntKind.min, IntKind.max, IntKind.signed, IntKind.bits] at h1 h2
  exact ⟨h1, by omega⟩
set_option maxRecDepth 100000 in
theorem open_raw6 {cs : List Value} (h : DataW.trod enc Try.prog W base spare held fuel 46 cs = some x) : ∃ x : R06Raw, R06RawR (HW W) cs x ∧ (0 ≤ x.Rows ∧ x.Rows ≤ 255) ∧ (0 ≤ x.Cols ∧ x.Cols ≤ 255) := by
  obtain ⟨hlen, n, hf⟩ := open_fields (fl := [(5, 0), (5, 1), (28, 2)]) (by kernel_rfl) h
  obtain ⟨y0, g0⟩ := hf 0 _ _ rfl
  obtain ⟨y1, g1⟩ := hf 1 _ _ rfl
  obtain ⟨y2, g2⟩ := hf 2 _ _ rfl
  have c46 : Try.prog.cellsOf 46 = 3 := by kernel_rfl
  have c5 : Try.prog.cellsOf 5 = 1 := by kernel_rfl
  have c28 : Try.prog.cellsOf 28 = 1 := by kernel_rfl
  rw [c46] at hlen
  match cs, hlen with
  | [a, b, c], _ =>
    clear hf
    rw [c5] at g0 g1
    rw [c28] at g2
    obtain ⟨u, e0, _, w0⟩ := DataW.trod_int (k := .u8) (by kernel_rfl) g0
    obtain ⟨w, e1, _, w1⟩ := DataW.trod_int (k := .u8) (by kernel_rfl) g1
    obtain ⟨p, k, l, e2, hs⟩ := open_i8s g2
    simp at e0 e1 e2
    subst e0 e1 e2
    exact ⟨⟨u, w, l⟩, ⟨p, _, k, rfl, hs⟩, wf_u8 w0, wf_u8 w1⟩
end
theorem R06RawR.agg {h : Heap} {v : Value} {x : R06Raw} (r : R06RawR h v.cells.toList x) : AggV R06RawR h v x := by
  obtain ⟨p, n, c, e, s⟩ := r
  refine ⟨_, ?_, p, n, c, rfl, s⟩
  cases v <;> simp [Value.cells] at e
  rename_i cs
  have : cs = ⟨[.int .u8 x.Rows, .int .u8 x.Cols, .slice p n c]⟩ := Array.ext' e
  rw [this]
end Go.Z
end
