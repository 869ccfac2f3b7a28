/- For every raw matrix the law SparseRepresents returns true and leaves its argument as it was; there is no condition. -/
import Derived.Test.YtjdfhlkpfjhjoaaRows
import Derived.Test.YtjdfhlkpfjhjoaaX1
import Derived.Test.YtjdfhlkpfjhjoaaX10
import Derived.Test.YtjdfhlkpfjhjoaaX11
import Derived.OpenShut
set_option linter.unusedSimpArgs false
set_option linter.unusedVariables false
namespace Go.Proofs.Ytjdfhlkpfjhjoaa
open Go.ChangeShapes Go.WideShapes Go.ChangeAt Go.RowKit Go.Z Go.Proofs
theorem own : ownKnob Try.prog.godebug = none := by kernel_rfl
set_option maxRecDepth 100000 in
theorem sparseRepresents_lifted (os : Os) (started : os.Started) (H : Type) (enc : TypeId × Value → H) :
    ReturnsInHanded {} Try.checked os 7 .any (Rows.sparseRepresentsSpec.pre6 enc Try.prog Try.f7 Rows.sparseRepresentsRow.domain false) (Rows.sparseRepresentsSpec.post enc Try.prog Try.f7 false true false false) := by
  refine returnsInHanded_of_change (C := Try.checked) own started (by kernel_rfl) Try.func7
    (ChangeSpec.witness6 (enc := enc) (C := Try.checked) false ⟨#[], #[.agg #[.int .u8 0, .int .u8 0, .slice none 0 0]], []⟩ 8 (by kernel_rfl) (by kernel_rfl) (by kernel_rfl) (by kernel_rfl)) ?_
  intro W base args ds gs before hval0 hW hcnd _
  have hW' := hW
  have hlt0 := hW.lt
  obtain ⟨p, q, hA0, hV, rfl, hfz, hnd⟩ := hW
  have hA : DataW.TrodAll enc Try.prog W 0 (fun _ => true) true Try.f7.params.toList args.toList ds p := hA0
  have hpar : Try.f7.params = #[46] := by kernel_rfl
  rw [hpar] at hA
  obtain ⟨v0, d0, rfl, rfl, h0⟩ := trodAll_one hA
  obtain ⟨rfl, rfl⟩ := trodVars_none hV
  obtain ⟨f0, g0⟩ := h0
  obtain ⟨x, hx, b1, b2⟩ := open_raw6 g0
  have hlaw := torsionlaw06_SparseRepresents_fn (h := HW W) hx.agg (represents_ok x b1 b2) W (fun b o x => x)
  refine hlaw.mono ?_
  rintro e W' ⟨v, h', rfl, hb, _, _, _, rfl⟩
  refine ⟨_, rfl, [d0], [], _, [], p, [], hW', ?_, ?_, rfl, hb.frame _, fun h => by cases h⟩
  · exact trodAll_mk1 (shut_bool (by kernel_rfl) true)
  · exact trodAll_mk1 (Below.trod (by kernel_rfl) (by kernel_rfl) (of_decide_eq_true (by kernel_rfl)) ⟨f0, g0⟩ hb (fun x hx => hlt0 x (by simpa using hx)))
/-- The statement. -/
theorem sparseRepresents_holds : Rows.SparseRepresentsSaid :=
  OpenClaim.holds_of_wide (p := Try.pinned) (s := Rows.sparseRepresentsSpec) (c := Rows.sparseRepresentsRow) 7 Try.f7 rfl rfl rfl rfl rfl rfl rfl ⟨rfl, rfl, rfl, rfl, rfl⟩ rfl rfl rfl rfl rfl (by kernel_rfl) Try.func7 (by kernel_rfl)
    (of_decide_eq_true (by kernel_rfl)) (by unfold Func.isWrapper; first | (rw [if_pos (by decide +kernel)]; kernel_rfl) | (rw [if_neg (by decide +kernel)]; exact ⟨rfl, rfl⟩))
    (fun os started H enc _ => sparseRepresents_lifted os started H enc)
end Go.Proofs.Ytjdfhlkpfjhjoaa
