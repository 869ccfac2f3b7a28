/- For every raw complex and every byte the law MergeTwins returns true and leaves its arguments as they were; there is no condition. -/
import Derived.Test.YtcnhddiedfifmaaGreatRows
import Derived.Test.YtcnhddiedfifmaaGreatMT3
import Derived.Test.YtcnhddiedfifmaaGreatMT6
import Derived.OpenShut
set_option linter.unusedSimpArgs false
set_option linter.unusedVariables false
namespace Go.Z
open Go
theorem mergeTwins_law (x : R26Raw) (i : Int) (hi : 0 ≤ i ∧ i ≤ 255) : M.l31_MergeTwins x i = some true := by
  obtain ⟨c, h1, h2, h3, h4, h5⟩ := Made_ok x
  exact MergeTwins_ok sanity_ok h1 h2 (by omega) (fun y hy => by have := h4 y hy; omega) hi (by omega)
end Go.Z
namespace Go.Proofs.YtcnhddiedfifmaaGreat
open Go.ChangeShapes Go.WideShapes Go.ChangeAt Go.RowKit Go.Z Go.Proofs
theorem ownMergeTwins : ownKnob Tryz.prog.godebug = none := by kernel_rfl
set_option maxRecDepth 100000 in
theorem mergeTwins_lifted (os : Os) (started : os.Started) (H : Type) (enc : TypeId × Value → H) :
    ReturnsInHanded {} Tryz.checked os 4 .any (Rows.mergeTwinsSpec.pre6 enc Tryz.prog Tryz.f4 Rows.mergeTwinsRow.domain false) (Rows.mergeTwinsSpec.post enc Tryz.prog Tryz.f4 false true false false) := by
  refine returnsInHanded_of_change (C := Tryz.checked) ownMergeTwins started (by kernel_rfl) Tryz.func4
    (ChangeSpec.witness6 (enc := enc) (C := Tryz.checked) false ⟨#[], #[.agg #[.int .u8 0, .slice none 0 0], .int .u8 0], []⟩ 8 (by kernel_rfl) (by kernel_rfl) (by kernel_rfl) (by kernel_rfl)) ?_
  intro W base args ds gs before hval0 hW hcnd _
  have hval : ∀ (j : Nat) t v, Tryz.f4.params[j]? = some t → args[j]? = some v → Value.okWide Tryz.prog W .any base t v := hval0
  have hW' := hW
  have hlt0 := hW.lt
  obtain ⟨p, q, hA0, hV, rfl, hfz, hnd⟩ := hW
  have hA : DataW.TrodAll enc Tryz.prog W 0 (fun _ => true) true Tryz.f4.params.toList args.toList ds p := hA0
  have hpar : Tryz.f4.params = #[24, 5] := by kernel_rfl
  rw [hpar] at hA hval
  obtain ⟨v0, v1, d0, d1, p0, p1, rfl, rfl, rfl, h0, h1⟩ := trodAll_two hA
  obtain ⟨rfl, rfl⟩ := trodVars_none hV
  obtain ⟨f0, g0⟩ := h0
  obtain ⟨f1, g1⟩ := h1
  obtain ⟨i, e1, _, w1⟩ := DataW.trod_int (k := .u8) (by kernel_rfl) g1
  have e1 : v1 = .int .u8 i := by
    have k1 := okWide_int (k := .u8) (by kernel_rfl) (hval 1 _ v1 rfl rfl)
    obtain ⟨z, rfl⟩ := k1
    simpa [Value.cells] using e1
  subst e1
  obtain ⟨x, hx⟩ := open_raw26 g0
  have hlaw := l31_MergeTwins_fn (h := HW W) hx.agg (mergeTwins_law x i (wf26 w1)) W (fun b o x => x)
  refine hlaw.mono ?_
  rintro e W' ⟨vv, h', rfl, hbb, _, _, _, rfl⟩
  have back : ∀ {t : TypeId} {v : Value} {d : DataW H} {ps : List MemPlace}, Tryz.prog.readableRec t = true → t < Tryz.prog.types.size → DataW.Trod enc Tryz.prog W 0 (fun _ => true) true t v d ps → (∀ z ∈ ps, z ∈ p0 ++ p1) → DataW.Trod enc Tryz.prog W' 0 (fun b => decide (b < W.heap.size)) true t v d ps := fun hr hs ht hz =>
    Below.trod (by kernel_rfl) hr hs ht hbb (fun x hx => hlt0 x (by simpa using hz x hx))
  refine ⟨_, rfl, [d0, d1], [], _, [], p0 ++ p1, [], hW', ?_, ?_, rfl, hbb.frame _, fun h => by cases h⟩
  · exact trodAll_mk1 (shut_bool (by kernel_rfl) true)
  · exact trodAll_mk2 (back (by kernel_rfl) (of_decide_eq_true (by kernel_rfl)) ⟨f0, g0⟩ (fun z hz => by simp [hz])) (back (by kernel_rfl) (of_decide_eq_true (by kernel_rfl)) ⟨f1, g1⟩ (fun z hz => by simp [hz]))
theorem faMergeTwins : (Rows.mergeTwinsRow.inPlace == Tryz.pinned.checked.prog.inPlace 4) = true := by kernel_rfl
theorem fbMergeTwins : (Rows.mergeTwinsRow.unfollowed == Tryz.pinned.checked.prog.unfollowed 4) = true := by kernel_rfl
theorem fcMergeTwins : (Rows.mergeTwinsRow.recurses == Tryz.pinned.checked.prog.recurses 4) = true := by kernel_rfl
theorem fdMergeTwins : (Rows.mergeTwinsRow.named == Tryz.pinned.checked.prog.varsNamed 4) = true := by kernel_rfl
theorem feMergeTwins : (Rows.mergeTwinsRow.lifted == Tryz.pinned.checked.prog.liftsFinal) = true := by kernel_rfl
theorem ffMergeTwins : (Tryz.pinned.checked.prog.make == some Rows.mergeTwinsRow.make) = true := by kernel_rfl
theorem fgMergeTwins : (Rows.mergeTwinsRow.plainKeys == Tryz.pinned.checked.prog.plainKeys) = true := by kernel_rfl
theorem closedMergeTwins : joinedFacts Tryz.pinned.checked.prog 4 Tryz.f4 Rows.mergeTwinsSpec Rows.mergeTwinsRow = true := by
  unfold joinedFacts
  rw [cf_laid, cf_maps, faMergeTwins, fbMergeTwins, fcMergeTwins, fdMergeTwins, fgMergeTwins, cf_heard, cf_enter, feMergeTwins, ffMergeTwins]
  kernel_rfl
/-- The statement. -/
theorem mergeTwins_holds : Rows.MergeTwinsSaid :=
  OpenClaim.holds_of_wide (p := Tryz.pinned) (s := Rows.mergeTwinsSpec) (c := Rows.mergeTwinsRow) 4 Tryz.f4 rfl rfl rfl rfl rfl rfl rfl ⟨rfl, rfl, rfl, rfl, rfl⟩ rfl rfl rfl rfl rfl (by kernel_rfl) Tryz.func4 closedMergeTwins
    (of_decide_eq_true (by kernel_rfl)) (by unfold Func.isWrapper; first | (rw [if_pos (by decide +kernel)]; kernel_rfl) | (rw [if_neg (by decide +kernel)]; exact ⟨rfl, rfl⟩))
    (fun os started H enc _ => mergeTwins_lifted os started H enc)
end Go.Proofs.YtcnhddiedfifmaaGreat
