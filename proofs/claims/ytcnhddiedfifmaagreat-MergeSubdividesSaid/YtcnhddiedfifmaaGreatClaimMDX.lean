/- For every raw complex and every pair of small numbers the law MergeSubdivides returns true and leaves its arguments as they were; there is no condition. -/
import Derived.Test.YtcnhddiedfifmaaGreatRows
import Derived.Test.YtcnhddiedfifmaaGreatMD3
import Derived.Test.YtcnhddiedfifmaaGreatMD4
import Derived.Test.YtcnhddiedfifmaaGreatMD7
import Derived.OpenShut
set_option linter.unusedSimpArgs false
set_option linter.unusedVariables false
namespace Go.Z
open Go
theorem mergeSubdivides_law (x : R26Raw) (v : Int × Int) (hb : (-128 ≤ v.1 ∧ v.1 ≤ 127) ∧ -128 ≤ v.2 ∧ v.2 ≤ 127) : M.l31_MergeSubdivides x v = some true := by
  obtain ⟨c, h1, h2, h3, h4, h5⟩ := Made_ok x
  exact MergeSubdivides_ok sanity_ok h1 h2 (by omega) hb
end Go.Z
namespace Go.Proofs.YtcnhddiedfifmaaGreat
open Go.ChangeShapes Go.WideShapes Go.ChangeAt Go.RowKit Go.Z Go.Proofs
theorem ownMergeSubdivides : ownKnob Tryz.prog.godebug = none := by kernel_rfl
set_option maxRecDepth 100000 in
theorem mergeSubdivides_lifted (os : Os) (started : os.Started) (H : Type) (enc : TypeId × Value → H) :
    ReturnsInHanded {} Tryz.checked os 6 .any (Rows.mergeSubdividesSpec.pre6 enc Tryz.prog Tryz.f6 Rows.mergeSubdividesRow.domain false) (Rows.mergeSubdividesSpec.post enc Tryz.prog Tryz.f6 false true false false) := by
  refine returnsInHanded_of_change (C := Tryz.checked) ownMergeSubdivides started (by kernel_rfl) Tryz.func6
    (ChangeSpec.witness6 (enc := enc) (C := Tryz.checked) false ⟨#[], #[.agg #[.int .u8 0, .slice none 0 0], .agg #[.int .i8 0, .int .i8 0]], []⟩ 8 (by kernel_rfl) (by kernel_rfl) (by kernel_rfl) (by kernel_rfl)) ?_
  intro W base args ds gs before hval0 hW hcnd _
  have hval : ∀ (j : Nat) t v, Tryz.f6.params[j]? = some t → args[j]? = some v → Value.okWide Tryz.prog W .any base t v := hval0
  have hW' := hW
  have hlt0 := hW.lt
  obtain ⟨p, q, hA0, hV, rfl, hfz, hnd⟩ := hW
  have hA : DataW.TrodAll enc Tryz.prog W 0 (fun _ => true) true Tryz.f6.params.toList args.toList ds p := hA0
  have hpar : Tryz.f6.params = #[24, 58] := by kernel_rfl
  rw [hpar] at hA hval
  obtain ⟨v0, v1, d0, d1, p0, p1, rfl, rfl, rfl, h0, h1⟩ := trodAll_two hA
  obtain ⟨rfl, rfl⟩ := trodVars_none hV
  obtain ⟨f0, g0⟩ := h0
  obtain ⟨f1, g1⟩ := h1
  obtain ⟨v, hv, hb⟩ := open_a2 g1
  obtain ⟨x, hx⟩ := open_raw26 g0
  have hlaw := l31_MergeSubdivides_fn (h := HW W) hx.agg hv.agg (mergeSubdivides_law x v hb) W (fun b o x => x)
  refine hlaw.mono ?_
  rintro e W' ⟨vv, h', rfl, hbb, _, _, _, rfl⟩
  have back : ∀ {t : TypeId} {v : Value} {d : DataW H} {ps : List MemPlace}, Tryz.prog.readableRec t = true → t < Tryz.prog.types.size → DataW.Trod enc Tryz.prog W 0 (fun _ => true) true t v d ps → (∀ z ∈ ps, z ∈ p0 ++ p1) → DataW.Trod enc Tryz.prog W' 0 (fun b => decide (b < W.heap.size)) true t v d ps := fun hr hs ht hz =>
    Below.trod (by kernel_rfl) hr hs ht hbb (fun x hx => hlt0 x (by simpa using hz x hx))
  refine ⟨_, rfl, [d0, d1], [], _, [], p0 ++ p1, [], hW', ?_, ?_, rfl, hbb.frame _, fun h => by cases h⟩
  · exact trodAll_mk1 (shut_bool (by kernel_rfl) true)
  · exact trodAll_mk2 (back (by kernel_rfl) (of_decide_eq_true (by kernel_rfl)) ⟨f0, g0⟩ (fun z hz => by simp [hz])) (back (by kernel_rfl) (of_decide_eq_true (by kernel_rfl)) ⟨f1, g1⟩ (fun z hz => by simp [hz]))
theorem faMergeSubdivides : (Rows.mergeSubdividesRow.inPlace == Tryz.pinned.checked.prog.inPlace 6) = true := by kernel_rfl
theorem fbMergeSubdivides : (Rows.mergeSubdividesRow.unfollowed == Tryz.pinned.checked.prog.unfollowed 6) = true := by kernel_rfl
theorem fcMergeSubdivides : (Rows.mergeSubdividesRow.recurses == Tryz.pinned.checked.prog.recurses 6) = true := by kernel_rfl
theorem fdMergeSubdivides : (Rows.mergeSubdividesRow.named == Tryz.pinned.checked.prog.varsNamed 6) = true := by kernel_rfl
theorem feMergeSubdivides : (Rows.mergeSubdividesRow.lifted == Tryz.pinned.checked.prog.liftsFinal) = true := by kernel_rfl
theorem ffMergeSubdivides : (Tryz.pinned.checked.prog.make == some Rows.mergeSubdividesRow.make) = true := by kernel_rfl
theorem fgMergeSubdivides : (Rows.mergeSubdividesRow.plainKeys == Tryz.pinned.checked.prog.plainKeys) = true := by kernel_rfl
theorem closedMergeSubdivides : joinedFacts Tryz.pinned.checked.prog 6 Tryz.f6 Rows.mergeSubdividesSpec Rows.mergeSubdividesRow = true := by
  unfold joinedFacts
  rw [cf_laid, cf_maps, faMergeSubdivides, fbMergeSubdivides, fcMergeSubdivides, fdMergeSubdivides, fgMergeSubdivides, cf_heard, cf_enter, feMergeSubdivides, ffMergeSubdivides]
  kernel_rfl
/-- The statement. -/
theorem mergeSubdivides_holds : Rows.MergeSubdividesSaid :=
  OpenClaim.holds_of_wide (p := Tryz.pinned) (s := Rows.mergeSubdividesSpec) (c := Rows.mergeSubdividesRow) 6 Tryz.f6 rfl rfl rfl rfl rfl rfl rfl ⟨rfl, rfl, rfl, rfl, rfl⟩ rfl rfl rfl rfl rfl (by kernel_rfl) Tryz.func6 closedMergeSubdivides
    (of_decide_eq_true (by kernel_rfl)) (by unfold Func.isWrapper; first | (rw [if_pos (by decide +kernel)]; kernel_rfl) | (rw [if_neg (by decide +kernel)]; exact ⟨rfl, rfl⟩))
    (fun os started H enc _ => mergeSubdivides_lifted os started H enc)
end Go.Proofs.YtcnhddiedfifmaaGreat
