/- For every two raw matrices and every list of bytes the law SparseMatchesReference returns true and leaves its arguments as they were; there is no condition. -/
import Derived.Test.YtjdfhlkpfjhjoaaRows
import Derived.Test.YtjdfhlkpfjhjoaaX2
import Derived.Test.YtjdfhlkpfjhjoaaX13
import Derived.OpenShut
set_option linter.unusedSimpArgs false
set_option linter.unusedVariables false
namespace Go.Z
open Go
theorem cells_slice6 {v : Value} {p : Option Addr} {n c : Nat} (h : v.cells.toList = [.slice p n c]) (hv : ∃ a l k, v = .slice a l k) : v = .slice p n c := by
  obtain ⟨a, l, k, rfl⟩ := hv
  simpa [Value.cells] using h
end Go.Z
namespace Go.Proofs.Ytjdfhlkpfjhjoaa
open Go.ChangeShapes Go.WideShapes Go.ChangeAt Go.RowKit Go.Z Go.Proofs
theorem own : ownKnob Try.prog.godebug = none := by kernel_rfl
set_option maxRecDepth 100000 in
theorem sparseMatchesReference_lifted (os : Os) (started : os.Started) (H : Type) (enc : TypeId × Value → H) :
    ReturnsInHanded {} Try.checked os 8 .any (Rows.sparseMatchesReferenceSpec.pre6 enc Try.prog Try.f8 Rows.sparseMatchesReferenceRow.domain false) (Rows.sparseMatchesReferenceSpec.post enc Try.prog Try.f8 false true false false) := by
  refine returnsInHanded_of_change (C := Try.checked) own started (by kernel_rfl) Try.func8
    (ChangeSpec.witness6 (enc := enc) (C := Try.checked) false ⟨#[], #[.agg #[.int .u8 0, .int .u8 0, .slice none 0 0], .agg #[.int .u8 0, .int .u8 0, .slice none 0 0], .slice none 0 0], []⟩ 8 (by kernel_rfl) (by kernel_rfl) (by kernel_rfl) (by kernel_rfl)) ?_
  intro W base args ds gs before hval0 hW hcnd _
  have hval : ∀ (j : Nat) t v, Try.f8.params[j]? = some t → args[j]? = some v → Value.okWide Try.prog W .any base t v := hval0
  have hW' := hW
  have hlt0 := hW.lt
  obtain ⟨p, q, hA0, hV, rfl, hfz, hnd⟩ := hW
  have hA : DataW.TrodAll enc Try.prog W 0 (fun _ => true) true Try.f8.params.toList args.toList ds p := hA0
  have hpar : Try.f8.params = #[46, 46, 28] := by kernel_rfl
  rw [hpar] at hA hval
  obtain ⟨v0, v1, v2, d0, d1, d2, p0, p1, p2, rfl, rfl, rfl, h0, h1, h2⟩ := trodAll_three hA
  obtain ⟨rfl, rfl⟩ := trodVars_none hV
  obtain ⟨f0, g0⟩ := h0
  obtain ⟨f1, g1⟩ := h1
  obtain ⟨f2, g2⟩ := h2
  obtain ⟨x, hx, x1, x2⟩ := open_raw6 g0
  obtain ⟨y, hy, y1, y2⟩ := open_raw6 g1
  have k2 := okWide_slice (e := 29) (by kernel_rfl) (hval 2 _ v2 rfl rfl)
  obtain ⟨a2, c2, l, e2, hl⟩ := open_i8s g2
  have e2 := cells_slice6 e2 k2
  subst e2
  have hlaw := torsionlaw06_SparseMatchesReference_fn (h := HW W) hx.agg hy.agg hl (matches_ok x y l x1 x2 y2) W (fun b o x => x)
  refine hlaw.mono ?_
  rintro e W' ⟨v, h', rfl, hb, _, _, _, rfl⟩
  have back : ∀ {t : TypeId} {v : Value} {d : DataW H} {ps : List MemPlace}, Try.prog.readableRec t = true → t < Try.prog.types.size → DataW.Trod enc Try.prog W 0 (fun _ => true) true t v d ps → (∀ z ∈ ps, z ∈ p0 ++ p1 ++ p2) → DataW.Trod enc Try.prog W' 0 (fun b => decide (b < W.heap.size)) true t v d ps := fun hr hs ht hz =>
    Below.trod (by kernel_rfl) hr hs ht hb (fun x hx => hlt0 x (by simpa using hz x hx))
  refine ⟨_, rfl, [d0, d1, d2], [], _, [], p0 ++ (p1 ++ p2), [], hW', ?_, ?_, rfl, hb.frame _, fun h => by cases h⟩
  · exact trodAll_mk1 (shut_bool (by kernel_rfl) true)
  · exact trodAll_mk3 (back (by kernel_rfl) (of_decide_eq_true (by kernel_rfl)) ⟨f0, g0⟩ (fun z hz => by simp [hz])) (back (by kernel_rfl) (of_decide_eq_true (by kernel_rfl)) ⟨f1, g1⟩ (fun z hz => by simp [hz])) (back (by kernel_rfl) (of_decide_eq_true (by kernel_rfl)) ⟨f2, g2⟩ (fun z hz => by simp [hz]))
/-- The statement. -/
theorem sparseMatchesReference_holds : Rows.SparseMatchesReferenceSaid :=
  OpenClaim.holds_of_wide (p := Try.pinned) (s := Rows.sparseMatchesReferenceSpec) (c := Rows.sparseMatchesReferenceRow) 8 Try.f8 rfl rfl rfl rfl rfl rfl rfl ⟨rfl, rfl, rfl, rfl, rfl⟩ rfl rfl rfl rfl rfl (by kernel_rfl) Try.func8 (by kernel_rfl)
    (of_decide_eq_true (by kernel_rfl)) (by unfold Func.isWrapper; first | (rw [if_pos (by decide +kernel)]; kernel_rfl) | (rw [if_neg (by decide +kernel)]; exact ⟨rfl, rfl⟩))
    (fun os started H enc _ => sparseMatchesReference_lifted os started H enc)
end Go.Proofs.Ytjdfhlkpfjhjoaa
