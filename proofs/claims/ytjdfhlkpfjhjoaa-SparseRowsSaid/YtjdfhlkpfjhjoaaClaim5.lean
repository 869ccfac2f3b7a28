/- For every raw matrix, every list of bytes and every index the law SparseRows returns true and leaves its arguments as they were; there is no condition. -/
import Derived.Test.YtjdfhlkpfjhjoaaRows
import Derived.Test.YtjdfhlkpfjhjoaaLaw5
import Derived.Test.YtjdfhlkpfjhjoaaOpen
import Derived.OpenShut
set_option linter.unusedSimpArgs false
set_option linter.unusedVariables false
namespace Go.Z
open Go Go.RowKit Go.Proofs
section
variable {H : Type} {enc : TypeId × Value → H} {W : World} {base : Nat} {spare : Nat → Bool} {held : Bool} {fuel : Nat} {x : DataW H × List MemPlace}
theorem wf_i8 {n : Int} (h : (Lit.int .i8 n).wf = true) : -128 ≤ n ∧ n ≤ 127 := by
  simp only [Lit.wf, Bool.and_eq_true, decide_eq_true_eq] at h
  have h1 := h.1
  have h2 := h.2
  simp [IntKind.min, IntKind.max, IntKind.signed, IntKind.bits] at h1 h2
  exact ⟨h1, by omega⟩
set_option maxRecDepth 100000 in
theorem open_bytes {cs : List Value} (h : DataW.trod enc Try.prog W base spare held fuel 28 cs = some x) : ∃ p c l, cs = [.slice p l.length c] ∧ BytesAt (HW W) (.slice p l.length c) l := by
  obtain ⟨p, c, l, e, hs, _⟩ := open_sls (R := I8R) (Pr := fun _ : Int => True) (e := 29) (sz := 1) (by kernel_rfl) (by kernel_rfl) (by decide) (fun n cs' y hy => by
    obtain ⟨z, rfl, _, hw⟩ := DataW.trod_int (k := .i8) (by kernel_rfl) hy
    exact ⟨z, ⟨rfl, wf_i8 hw⟩, trivial⟩) h
  exact ⟨p, c, l, e, hs⟩
theorem wf_u8 {n : Int} (h : (Lit.int .u8 n).wf = true) : 0 ≤ n ∧ n ≤ 255 := by
  simp only [Lit.wf, Bool.and_eq_true, decide_eq_true_eq] at h
  have h1 := h.1
  have h2 := h.2
  simp [IntKind.min, IntKind.max, IntKind.signed, IntKind.bits] at h1 h2
  exact ⟨h1, by omega⟩
set_option maxRecDepth 100000 in
theorem open_rawmat {cs : List Value} (h : DataW.trod enc Try.prog W base spare held fuel 46 cs = some x) : ∃ (r c : Nat) (p : Option Addr) (k : Nat) (l : List Int), cs = [.int .u8 (r : Int), .int .u8 (c : Int), .slice p l.length k] ∧ BytesAt (HW W) (.slice p l.length k) l ∧ r ≤ 255 ∧ c ≤ 255 := by
  obtain ⟨hlen, n, hf⟩ := open_fields (fl := [(5, 0), (5, 1), (28, 2)]) (by kernel_rfl) h
  obtain ⟨y0, g0⟩ := hf 0 _ _ rfl
  obtain ⟨y1, g1⟩ := hf 1 _ _ rfl
  obtain ⟨y2, g2⟩ := hf 2 _ _ rfl
  have c46 : Try.prog.cellsOf 46 = 3 := by kernel_rfl
  have c5 : Try.prog.cellsOf 5 = 1 := by kernel_rfl
  have c28 : Try.prog.cellsOf 28 = 1 := by kernel_rfl
  rw [c46] at hlen
  match cs, hlen with
  | [a, b, c], _ =>
    clear hf
    rw [c5] at g0 g1
    rw [c28] at g2
    obtain ⟨u, e0, _, w0⟩ := DataW.trod_int (k := .u8) (by kernel_rfl) g0
    obtain ⟨w, e1, _, w1⟩ := DataW.trod_int (k := .u8) (by kernel_rfl) g1
    obtain ⟨p, k, l, e2, hs⟩ := open_bytes g2
    have b0 := wf_u8 w0
    have b1 := wf_u8 w1
    obtain ⟨r0, rfl⟩ := Int.eq_ofNat_of_zero_le b0.1
    obtain ⟨r1, rfl⟩ := Int.eq_ofNat_of_zero_le b1.1
    simp at e0 e1 e2
    subst e0 e1 e2
    exact ⟨r0, r1, p, k, l, rfl, hs, by omega, by omega⟩
end
theorem cells_slice {v : Value} {p : Option Addr} {n c : Nat} (h : v.cells.toList = [.slice p n c]) (hv : ∃ a l k, v = .slice a l k) : v = .slice p n c := by
  obtain ⟨a, l, k, rfl⟩ := hv
  simpa [Value.cells] using h
theorem cells_agg {v : Value} {a b : Value} {l : List Value} (h : v.cells.toList = a :: b :: l) : v = .agg ⟨a :: b :: l⟩ := by
  cases v <;> simp [Value.cells] at h
  rename_i cs
  have : cs = ⟨a :: b :: l⟩ := Array.ext' h
  rw [this]
end Go.Z
namespace Go.Proofs.Ytjdfhlkpfjhjoaa
open Go.ChangeShapes Go.WideShapes Go.ChangeAt Go.RowKit Go.Z Go.Proofs
theorem own : ownKnob Try.prog.godebug = none := by kernel_rfl
set_option maxRecDepth 100000 in
theorem sparseRows_lifted (os : Os) (started : os.Started) (H : Type) (enc : TypeId × Value → H) :
    ReturnsInHanded {} Try.checked os 5 .any (Rows.sparseRowsSpec.pre6 enc Try.prog Try.f5 Rows.sparseRowsRow.domain false) (Rows.sparseRowsSpec.post enc Try.prog Try.f5 false true false false) := by
  refine returnsInHanded_of_change (C := Try.checked) own started (by kernel_rfl) Try.func5
    (ChangeSpec.witness6 (enc := enc) (C := Try.checked) false ⟨#[], #[.agg #[.int .u8 0, .int .u8 0, .slice none 0 0], .slice none 0 0, .int .i64 0], []⟩ 8 (by kernel_rfl) (by kernel_rfl) (by kernel_rfl) (by kernel_rfl)) ?_
  intro W base args ds gs before hval0 hW hcnd _
  have hval : ∀ (j : Nat) t v, Try.f5.params[j]? = some t → args[j]? = some v → Value.okWide Try.prog W .any base t v := hval0
  have hW' := hW
  have hlt0 := hW.lt
  obtain ⟨p, q, hA0, hV, rfl, hfz, hnd⟩ := hW
  have hA : DataW.TrodAll enc Try.prog W 0 (fun _ => true) true Try.f5.params.toList args.toList ds p := hA0
  have hpar : Try.f5.params = #[46, 28, 3] := by kernel_rfl
  rw [hpar] at hA hval
  obtain ⟨v0, v1, v2, d0, d1, d2, p0, p1, p2, rfl, rfl, rfl, h0, h1, h2⟩ := trodAll_three hA
  obtain ⟨rfl, rfl⟩ := trodVars_none hV
  have k1 := okWide_slice (e := 29) (by kernel_rfl) (hval 1 _ v1 rfl rfl)
  obtain ⟨y, e2⟩ := okWide_int (k := .i64) (by kernel_rfl) (hval 2 _ v2 rfl rfl)
  obtain ⟨f0, g0⟩ := h0
  obtain ⟨f1, g1⟩ := h1
  obtain ⟨f2, g2⟩ := h2
  obtain ⟨r0, c0, a0, k0, lx, e0, hx, hr0, hc0⟩ := open_rawmat g0
  obtain ⟨a1, c1, l, e1, hl⟩ := open_bytes g1
  have e0 := cells_agg e0
  have e1 := cells_slice e1 k1
  have hlaw := law_rows (h := HW W) (i := y) (l := l) ⟨a0, k0, rfl, hx⟩ hr0 hc0 hl W (fun b o x => x)
  rw [← e0, ← e1, ← e2] at hlaw
  refine hlaw.mono ?_
  rintro e W' ⟨v, h', rfl, hb, _, _, _, rfl⟩
  have back : ∀ {t : TypeId} {v : Value} {d : DataW H} {ps : List MemPlace}, Try.prog.readableRec t = true → t < Try.prog.types.size → DataW.Trod enc Try.prog W 0 (fun _ => true) true t v d ps → (∀ z ∈ ps, z ∈ p0 ++ p1 ++ p2) → DataW.Trod enc Try.prog W' 0 (fun b => decide (b < W.heap.size)) true t v d ps := fun hr hs ht hz =>
    Below.trod (by kernel_rfl) hr hs ht hb (fun x hx => hlt0 x (by simpa using hz x hx))
  refine ⟨_, rfl, [d0, d1, d2], [], _, [], p0 ++ (p1 ++ p2), [], hW', ?_, ?_, rfl, hb.frame _, fun h => by cases h⟩
  · exact trodAll_mk1 (shut_bool (by kernel_rfl) true)
  · exact trodAll_mk3 (back (by kernel_rfl) (of_decide_eq_true (by kernel_rfl)) ⟨f0, g0⟩ (fun z hz => by simp [hz])) (back (by kernel_rfl) (of_decide_eq_true (by kernel_rfl)) ⟨f1, g1⟩ (fun z hz => by simp [hz])) (back (by kernel_rfl) (of_decide_eq_true (by kernel_rfl)) ⟨f2, g2⟩ (fun z hz => by simp [hz]))
/-- The statement. -/
theorem sparseRows_holds : Rows.SparseRowsSaid :=
  OpenClaim.holds_of_wide (p := Try.pinned) (s := Rows.sparseRowsSpec) (c := Rows.sparseRowsRow) 5 Try.f5 rfl rfl rfl rfl rfl rfl rfl ⟨rfl, rfl, rfl, rfl, rfl⟩ rfl rfl rfl rfl rfl (by kernel_rfl) Try.func5 (by kernel_rfl)
    (of_decide_eq_true (by kernel_rfl)) (by unfold Func.isWrapper; first | (rw [if_pos (by decide +kernel)]; kernel_rfl) | (rw [if_neg (by decide +kernel)]; exact ⟨rfl, rfl⟩))
    (fun os started H enc _ => sparseRows_lifted os started H enc)
end Go.Proofs.Ytjdfhlkpfjhjoaa
