/- For every raw complex the law MergeShrinks returns true and leaves its arguments as they were; there is no condition. -/
import Derived.Test.YtcnhddiedfifmaaGreatRows
import Derived.Test.YtcnhddiedfifmaaGreatMS3
import Derived.Test.YtcnhddiedfifmaaGreatMS4
import Derived.Test.YtcnhddiedfifmaaGreatMS7
import Derived.OpenShut
set_option linter.unusedSimpArgs false
set_option linter.unusedVariables false
namespace Go.Z
open Go
theorem mergeShrinks_law (x : R26Raw) : M.l31_MergeShrinks x = some true := by
  obtain ⟨c, h1, h2, h3, h4, h5⟩ := Made_ok x
  exact MergeShrinks_ok sanity_ok h1 h2 (by omega) h5 h3
end Go.Z
namespace Go.Proofs.YtcnhddiedfifmaaGreat
open Go.ChangeShapes Go.WideShapes Go.ChangeAt Go.RowKit Go.Z Go.Proofs
theorem ownMergeShrinks : ownKnob Tryz.prog.godebug = none := by kernel_rfl
set_option maxRecDepth 100000 in
theorem mergeShrinks_lifted (os : Os) (started : os.Started) (H : Type) (enc : TypeId × Value → H) :
    ReturnsInHanded {} Tryz.checked os 5 .any (Rows.mergeShrinksSpec.pre6 enc Tryz.prog Tryz.f5 Rows.mergeShrinksRow.domain false) (Rows.mergeShrinksSpec.post enc Tryz.prog Tryz.f5 false true false false) := by
  refine returnsInHanded_of_change (C := Tryz.checked) ownMergeShrinks started (by kernel_rfl) Tryz.func5
    (ChangeSpec.witness6 (enc := enc) (C := Tryz.checked) false ⟨#[], #[.agg #[.int .u8 0, .slice none 0 0]], []⟩ 8 (by kernel_rfl) (by kernel_rfl) (by kernel_rfl) (by kernel_rfl)) ?_
  intro W base args ds gs before hval0 hW hcnd _
  have hval : ∀ (j : Nat) t v, Tryz.f5.params[j]? = some t → args[j]? = some v → Value.okWide Tryz.prog W .any base t v := hval0
  have hW' := hW
  have hlt0 := hW.lt
  obtain ⟨p, q, hA0, hV, rfl, hfz, hnd⟩ := hW
  have hA : DataW.TrodAll enc Tryz.prog W 0 (fun _ => true) true Tryz.f5.params.toList args.toList ds p := hA0
  have hpar : Tryz.f5.params = #[24] := by kernel_rfl
  rw [hpar] at hA hval
  obtain ⟨v0, d0, rfl, rfl, h0⟩ := trodAll_one hA
  obtain ⟨rfl, rfl⟩ := trodVars_none hV
  obtain ⟨f0, g0⟩ := h0
  obtain ⟨x, hx⟩ := open_raw26 g0
  have hlaw := l31_MergeShrinks_fn (h := HW W) hx.agg (mergeShrinks_law x) W (fun b o x => x)
  refine hlaw.mono ?_
  rintro e W' ⟨vv, h', rfl, hbb, _, _, _, rfl⟩
  have back : ∀ {t : TypeId} {v : Value} {d : DataW H} {ps : List MemPlace}, Tryz.prog.readableRec t = true → t < Tryz.prog.types.size → DataW.Trod enc Tryz.prog W 0 (fun _ => true) true t v d ps → (∀ z ∈ ps, z ∈ p) → DataW.Trod enc Tryz.prog W' 0 (fun b => decide (b < W.heap.size)) true t v d ps := fun hr hs ht hz =>
    Below.trod (by kernel_rfl) hr hs ht hbb (fun x hx => hlt0 x (by simpa using hz x hx))
  refine ⟨_, rfl, [d0], [], _, [], p, [], hW', ?_, ?_, rfl, hbb.frame _, fun h => by cases h⟩
  · exact trodAll_mk1 (shut_bool (by kernel_rfl) true)
  · exact trodAll_mk1 (back (by kernel_rfl) (of_decide_eq_true (by kernel_rfl)) ⟨f0, g0⟩ (fun z hz => hz))
theorem faMergeShrinks : (Rows.mergeShrinksRow.inPlace == Tryz.pinned.checked.prog.inPlace 5) = true := by kernel_rfl
theorem fbMergeShrinks : (Rows.mergeShrinksRow.unfollowed == Tryz.pinned.checked.prog.unfollowed 5) = true := by kernel_rfl
theorem fcMergeShrinks : (Rows.mergeShrinksRow.recurses == Tryz.pinned.checked.prog.recurses 5) = true := by kernel_rfl
theorem fdMergeShrinks : (Rows.mergeShrinksRow.named == Tryz.pinned.checked.prog.varsNamed 5) = true := by kernel_rfl
theorem feMergeShrinks : (Rows.mergeShrinksRow.lifted == Tryz.pinned.checked.prog.liftsFinal) = true := by kernel_rfl
theorem ffMergeShrinks : (Tryz.pinned.checked.prog.make == some Rows.mergeShrinksRow.make) = true := by kernel_rfl
theorem fgMergeShrinks : (Rows.mergeShrinksRow.plainKeys == Tryz.pinned.checked.prog.plainKeys) = true := by kernel_rfl
theorem closedMergeShrinks : joinedFacts Tryz.pinned.checked.prog 5 Tryz.f5 Rows.mergeShrinksSpec Rows.mergeShrinksRow = true := by
  unfold joinedFacts
  rw [cf_laid, cf_maps, faMergeShrinks, fbMergeShrinks, fcMergeShrinks, fdMergeShrinks, fgMergeShrinks, cf_heard, cf_enter, feMergeShrinks, ffMergeShrinks]
  kernel_rfl
/-- The statement. -/
theorem mergeShrinks_holds : Rows.MergeShrinksSaid :=
  OpenClaim.holds_of_wide (p := Tryz.pinned) (s := Rows.mergeShrinksSpec) (c := Rows.mergeShrinksRow) 5 Tryz.f5 rfl rfl rfl rfl rfl rfl rfl ⟨rfl, rfl, rfl, rfl, rfl⟩ rfl rfl rfl rfl rfl (by kernel_rfl) Tryz.func5 closedMergeShrinks
    (of_decide_eq_true (by kernel_rfl)) (by unfold Func.isWrapper; first | (rw [if_pos (by decide +kernel)]; kernel_rfl) | (rw [if_neg (by decide +kernel)]; exact ⟨rfl, rfl⟩))
    (fun os started H enc _ => mergeShrinks_lifted os started H enc)
end Go.Proofs.YtcnhddiedfifmaaGreat
