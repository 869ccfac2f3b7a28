/- For every three raw matrices the law SparseMultiplies returns true and leaves its arguments as they were; there is no condition. -/
import Derived.Test.YtjdfhlkpfjhjoaaRows
import Derived.Test.YtjdfhlkpfjhjoaaX1
import Derived.Test.YtjdfhlkpfjhjoaaX12
import Derived.Test.YtjdfhlkpfjhjoaaX13
import Derived.OpenShut
set_option linter.unusedSimpArgs false
set_option linter.unusedVariables false
namespace Go.Proofs.Ytjdfhlkpfjhjoaa
open Go.ChangeShapes Go.WideShapes Go.ChangeAt Go.RowKit Go.Z Go.Proofs
theorem own : ownKnob Try.prog.godebug = none := by kernel_rfl
set_option maxRecDepth 100000 in
theorem sparseMultiplies_lifted (os : Os) (started : os.Started) (H : Type) (enc : TypeId × Value → H) :
    ReturnsInHanded {} Try.checked os 6 .any (Rows.sparseMultipliesSpec.pre6 enc Try.prog Try.f6 Rows.sparseMultipliesRow.domain false) (Rows.sparseMultipliesSpec.post enc Try.prog Try.f6 false true false false) := by
  refine returnsInHanded_of_change (C := Try.checked) own started (by kernel_rfl) Try.func6
    (ChangeSpec.witness6 (enc := enc) (C := Try.checked) false ⟨#[], #[.agg #[.int .u8 0, .int .u8 0, .slice none 0 0], .agg #[.int .u8 0, .int .u8 0, .slice none 0 0], .agg #[.int .u8 0, .int .u8 0, .slice none 0 0]], []⟩ 8 (by kernel_rfl) (by kernel_rfl) (by kernel_rfl) (by kernel_rfl)) ?_
  intro W base args ds gs before hval0 hW hcnd _
  have hW' := hW
  have hlt0 := hW.lt
  obtain ⟨p, q, hA0, hV, rfl, hfz, hnd⟩ := hW
  have hA : DataW.TrodAll enc Try.prog W 0 (fun _ => true) true Try.f6.params.toList args.toList ds p := hA0
  have hpar : Try.f6.params = #[46, 46, 46] := by kernel_rfl
  rw [hpar] at hA
  obtain ⟨v0, v1, v2, d0, d1, d2, p0, p1, p2, rfl, rfl, rfl, h0, h1, h2⟩ := trodAll_three hA
  obtain ⟨rfl, rfl⟩ := trodVars_none hV
  obtain ⟨f0, g0⟩ := h0
  obtain ⟨f1, g1⟩ := h1
  obtain ⟨f2, g2⟩ := h2
  obtain ⟨x, hx, x1, x2⟩ := open_raw6 g0
  obtain ⟨y, hy, y1, y2⟩ := open_raw6 g1
  obtain ⟨z, hz, z1, z2⟩ := open_raw6 g2
  have hlaw := torsionlaw06_SparseMultiplies_fn (h := HW W) hx.agg hy.agg hz.agg (multiplies_ok x y z x1 x2 y2 z2) W (fun b o x => x)
  refine hlaw.mono ?_
  rintro e W' ⟨v, h', rfl, hb, _, _, _, rfl⟩
  have back : ∀ {t : TypeId} {v : Value} {d : DataW H} {ps : List MemPlace}, Try.prog.readableRec t = true → t < Try.prog.types.size → DataW.Trod enc Try.prog W 0 (fun _ => true) true t v d ps → (∀ z ∈ ps, z ∈ p0 ++ p1 ++ p2) → DataW.Trod enc Try.prog W' 0 (fun b => decide (b < W.heap.size)) true t v d ps := fun hr hs ht hz =>
    Below.trod (by kernel_rfl) hr hs ht hb (fun x hx => hlt0 x (by simpa using hz x hx))
  refine ⟨_, rfl, [d0, d1, d2], [], _, [], p0 ++ (p1 ++ p2), [], hW', ?_, ?_, rfl, hb.frame _, fun h => by cases h⟩
  · exact trodAll_mk1 (shut_bool (by kernel_rfl) true)
  · exact trodAll_mk3 (back (by kernel_rfl) (of_decide_eq_true (by kernel_rfl)) ⟨f0, g0⟩ (fun z hz => by simp [hz])) (back (by kernel_rfl) (of_decide_eq_true (by kernel_rfl)) ⟨f1, g1⟩ (fun z hz => by simp [hz])) (back (by kernel_rfl) (of_decide_eq_true (by kernel_rfl)) ⟨f2, g2⟩ (fun z hz => by simp [hz]))
/-- The statement. -/
theorem sparseMultiplies_holds : Rows.SparseMultipliesSaid :=
  OpenClaim.holds_of_wide (p := Try.pinned) (s := Rows.sparseMultipliesSpec) (c := Rows.sparseMultipliesRow) 6 Try.f6 rfl rfl rfl rfl rfl rfl rfl ⟨rfl, rfl, rfl, rfl, rfl⟩ rfl rfl rfl rfl rfl (by kernel_rfl) Try.func6 (by kernel_rfl)
    (of_decide_eq_true (by kernel_rfl)) (by unfold Func.isWrapper; first | (rw [if_pos (by decide +kernel)]; kernel_rfl) | (rw [if_neg (by decide +kernel)]; exact ⟨rfl, rfl⟩))
    (fun os started H enc _ => sparseMultiplies_lifted os started H enc)
end Go.Proofs.Ytjdfhlkpfjhjoaa
