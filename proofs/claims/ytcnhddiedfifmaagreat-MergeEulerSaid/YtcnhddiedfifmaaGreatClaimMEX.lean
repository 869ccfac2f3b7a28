/- For every raw complex, three bytes and every list of small numbers the law MergeEuler returns true and leaves its arguments as they were; there is no condition. -/
import Derived.Test.YtcnhddiedfifmaaGreatRows
import Derived.Test.YtcnhddiedfifmaaGreatME3
import Derived.Test.YtcnhddiedfifmaaGreatME7
import Derived.OpenShut
set_option linter.unusedSimpArgs false
set_option linter.unusedVariables false
namespace Go.Z
open Go
theorem mergeEuler_law (x : R26Raw) (w : Int × Int × Int) (v : List Int) (hb : (0 ≤ w.1 ∧ w.1 ≤ 255) ∧ (0 ≤ w.2.1 ∧ w.2.1 ≤ 255) ∧ 0 ≤ w.2.2 ∧ w.2.2 ≤ 255) : M.l31_MergeEuler x w v = some true := by
  obtain ⟨c, h1, h2, h3, h4, h5⟩ := Made_ok x
  obtain ⟨c2, h6, st, h7, h8⟩ := Made_fin x
  obtain rfl : c = c2 := Option.some.inj (h1.symm.trans h6)
  exact MergeEuler_ok sanity_ok h1 h7 h8 h5 hb.1 hb.2.1 hb.2.2
end Go.Z
namespace Go.Proofs.YtcnhddiedfifmaaGreat
open Go.ChangeShapes Go.WideShapes Go.ChangeAt Go.RowKit Go.Z Go.Proofs
theorem ownMergeEuler : ownKnob Tryz.prog.godebug = none := by kernel_rfl
set_option maxRecDepth 100000 in
theorem mergeEuler_lifted (os : Os) (started : os.Started) (H : Type) (enc : TypeId × Value → H) :
    ReturnsInHanded {} Tryz.checked os 10 .any (Rows.mergeEulerSpec.pre6 enc Tryz.prog Tryz.f10 Rows.mergeEulerRow.domain false) (Rows.mergeEulerSpec.post enc Tryz.prog Tryz.f10 false true false false) := by
  refine returnsInHanded_of_change (C := Tryz.checked) ownMergeEuler started (by kernel_rfl) Tryz.func10
    (ChangeSpec.witness6 (enc := enc) (C := Tryz.checked) false ⟨#[], #[.agg #[.int .u8 0, .slice none 0 0], .agg #[.int .u8 0, .int .u8 0, .int .u8 0], .slice none 0 0], []⟩ 8 (by kernel_rfl) (by kernel_rfl) (by kernel_rfl) (by kernel_rfl)) ?_
  intro W base args ds gs before hval0 hW hcnd _
  have hval : ∀ (j : Nat) t v, Tryz.f10.params[j]? = some t → args[j]? = some v → Value.okWide Tryz.prog W .any base t v := hval0
  have hW' := hW
  have hlt0 := hW.lt
  obtain ⟨p, q, hA0, hV, rfl, hfz, hnd⟩ := hW
  have hA : DataW.TrodAll enc Tryz.prog W 0 (fun _ => true) true Tryz.f10.params.toList args.toList ds p := hA0
  have hpar : Tryz.f10.params = #[24, 84, 70] := by kernel_rfl
  rw [hpar] at hA hval
  obtain ⟨v0, v1, v2, d0, d1, d2, p0, p1, p2, rfl, rfl, rfl, h0, h1, h2⟩ := trodAll_three hA
  obtain ⟨rfl, rfl⟩ := trodVars_none hV
  have k2 := okWide_slice (e := 57) (by kernel_rfl) (hval 2 _ v2 rfl rfl)
  obtain ⟨f0, g0⟩ := h0
  obtain ⟨f1, g1⟩ := h1
  obtain ⟨f2, g2⟩ := h2
  obtain ⟨w, hv, hb⟩ := open_a3 g1
  obtain ⟨a2, c2, l, e2, hl2⟩ := open_ints g2
  have e2 := cells_slice3 e2 k2
  subst e2
  obtain ⟨x, hx⟩ := open_raw26 g0
  have hlaw := l31_MergeEuler_fn (h := HW W) hx.agg hv.agg hl2 (mergeEuler_law x w l hb) W (fun b o x => x)
  refine hlaw.mono ?_
  rintro e W' ⟨vv, h', rfl, hbb, _, _, _, rfl⟩
  have back : ∀ {t : TypeId} {v : Value} {d : DataW H} {ps : List MemPlace}, Tryz.prog.readableRec t = true → t < Tryz.prog.types.size → DataW.Trod enc Tryz.prog W 0 (fun _ => true) true t v d ps → (∀ z ∈ ps, z ∈ p0 ++ (p1 ++ p2)) → DataW.Trod enc Tryz.prog W' 0 (fun b => decide (b < W.heap.size)) true t v d ps := fun hr hs ht hz =>
    Below.trod (by kernel_rfl) hr hs ht hbb (fun x hx => hlt0 x (by simpa using hz x hx))
  refine ⟨_, rfl, [d0, d1, d2], [], _, [], p0 ++ (p1 ++ p2), [], hW', ?_, ?_, rfl, hbb.frame _, fun h => by cases h⟩
  · exact trodAll_mk1 (shut_bool (by kernel_rfl) true)
  · exact trodAll_mk3 (back (by kernel_rfl) (of_decide_eq_true (by kernel_rfl)) ⟨f0, g0⟩ (fun z hz => by simp [hz])) (back (by kernel_rfl) (of_decide_eq_true (by kernel_rfl)) ⟨f1, g1⟩ (fun z hz => by simp [hz])) (back (by kernel_rfl) (of_decide_eq_true (by kernel_rfl)) ⟨f2, g2⟩ (fun z hz => by simp [hz]))
theorem faMergeEuler : (Rows.mergeEulerRow.inPlace == Tryz.pinned.checked.prog.inPlace 10) = true := by kernel_rfl
theorem fbMergeEuler : (Rows.mergeEulerRow.unfollowed == Tryz.pinned.checked.prog.unfollowed 10) = true := by kernel_rfl
theorem fcMergeEuler : (Rows.mergeEulerRow.recurses == Tryz.pinned.checked.prog.recurses 10) = true := by kernel_rfl
theorem fdMergeEuler : (Rows.mergeEulerRow.named == Tryz.pinned.checked.prog.varsNamed 10) = true := by kernel_rfl
theorem feMergeEuler : (Rows.mergeEulerRow.lifted == Tryz.pinned.checked.prog.liftsFinal) = true := by kernel_rfl
theorem ffMergeEuler : (Tryz.pinned.checked.prog.make == some Rows.mergeEulerRow.make) = true := by kernel_rfl
theorem fgMergeEuler : (Rows.mergeEulerRow.plainKeys == Tryz.pinned.checked.prog.plainKeys) = true := by kernel_rfl
theorem closedMergeEuler : joinedFacts Tryz.pinned.checked.prog 10 Tryz.f10 Rows.mergeEulerSpec Rows.mergeEulerRow = true := by
  unfold joinedFacts
  rw [cf_laid, cf_maps, faMergeEuler, fbMergeEuler, fcMergeEuler, fdMergeEuler, fgMergeEuler, cf_heard, cf_enter, feMergeEuler, ffMergeEuler]
  kernel_rfl
/-- The statement. -/
theorem mergeEuler_holds : Rows.MergeEulerSaid :=
  OpenClaim.holds_of_wide (p := Tryz.pinned) (s := Rows.mergeEulerSpec) (c := Rows.mergeEulerRow) 10 Tryz.f10 rfl rfl rfl rfl rfl rfl rfl ⟨rfl, rfl, rfl, rfl, rfl⟩ rfl rfl rfl rfl rfl (by kernel_rfl) Tryz.func10 closedMergeEuler
    (of_decide_eq_true (by kernel_rfl)) (by unfold Func.isWrapper; first | (rw [if_pos (by decide +kernel)]; kernel_rfl) | (rw [if_neg (by decide +kernel)]; exact ⟨rfl, rfl⟩))
    (fun os started H enc _ => mergeEuler_lifted os started H enc)
end Go.Proofs.YtcnhddiedfifmaaGreat
