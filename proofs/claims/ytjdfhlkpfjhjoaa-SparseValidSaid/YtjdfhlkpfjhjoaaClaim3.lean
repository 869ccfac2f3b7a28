/- For every matrix of terms the law SparseValid returns true and leaves its argument as it was; there is no condition. -/
import Derived.Test.YtjdfhlkpfjhjoaaRows
import Derived.Test.YtjdfhlkpfjhjoaaLaw3
import Derived.Test.YtjdfhlkpfjhjoaaOpen
set_option linter.unusedSimpArgs false
set_option linter.unusedVariables false
namespace Go.Z
open Go Go.RowKit Go.Proofs
set_option maxRecDepth 100000 in
theorem open_sparse {H : Type} {enc : TypeId × Value → H} {W : World} {base : Nat} {spare : Nat → Bool} {held : Bool} {fuel : Nat} {cs : List Value} {x : DataW H × List MemPlace}
    (h : DataW.trod enc Try.prog W base spare held fuel 24 cs = some x) : ∃ rows cols p c L, cs = [.int .i64 rows, .int .i64 cols, .slice p L.length c] ∧ RowsAt (HW W) (.slice p L.length c) L ∧ ∀ r ∈ L, ∀ t ∈ r, t.2.2.length ≤ maxLen := by
  obtain ⟨hlen, n, hf⟩ := open_fields (fl := [(3, 0), (3, 1), (22, 2)]) (by kernel_rfl) h
  obtain ⟨y0, g0⟩ := hf 0 _ _ rfl
  obtain ⟨y1, g1⟩ := hf 1 _ _ rfl
  obtain ⟨y2, g2⟩ := hf 2 _ _ rfl
  have c24 : Try.prog.cellsOf 24 = 3 := by kernel_rfl
  have c3 : Try.prog.cellsOf 3 = 1 := by kernel_rfl
  have c22 : Try.prog.cellsOf 22 = 1 := by kernel_rfl
  rw [c24] at hlen
  match cs, hlen with
  | [a, b, c], _ =>
    clear hf
    rw [c3] at g0 g1
    rw [c22] at g2
    obtain ⟨rows, e0, _⟩ := DataW.trod_int (k := .i64) (by kernel_rfl) g0
    obtain ⟨cols, e1, _⟩ := DataW.trod_int (k := .i64) (by kernel_rfl) g1
    obtain ⟨p, k, L, e2, hs, hp⟩ := open_sls (R := One RowAt) (Pr := fun r : List RT => ∀ t ∈ r, t.2.2.length ≤ maxLen) (e := 26) (sz := 1) (by kernel_rfl) (by kernel_rfl) (by decide) (fun n cs' y hy => by
      obtain ⟨p, k, l, rfl, hs, hp⟩ := open_sls (R := TermR) (Pr := fun t : RT => t.2.2.length ≤ maxLen) (e := 71) (sz := 3) (by kernel_rfl) (by kernel_rfl) (by decide) (fun n cs' y hy =>
        open_term (ti := 3) (tv := 37) (tb := 4) (ts := 35) (e := 78) (by kernel_rfl) (by kernel_rfl) ⟨by kernel_rfl, by kernel_rfl⟩ (by kernel_rfl) (by kernel_rfl) ⟨by kernel_rfl, by kernel_rfl⟩ ⟨by kernel_rfl, by kernel_rfl⟩ (by kernel_rfl) (by kernel_rfl) hy) hy
      exact ⟨l, ⟨p, _, k, rfl, hs⟩, hp⟩) g2
    simp at e0 e1 e2
    subst e0 e1 e2
    exact ⟨rows, cols, p, k, L, rfl, hs, hp⟩
end Go.Z
namespace Go.Proofs.Ytjdfhlkpfjhjoaa
open Go.ChangeShapes Go.WideShapes Go.ChangeAt Go.RowKit Go.Z Go.Proofs
theorem own : ownKnob Try.prog.godebug = none := by kernel_rfl
set_option maxRecDepth 100000 in
theorem sparseValid_lifted (os : Os) (started : os.Started) (H : Type) (enc : TypeId × Value → H) :
    ReturnsInHanded {} Try.checked os 3 .any (Rows.sparseValidSpec.pre6 enc Try.prog Try.f3 Rows.sparseValidRow.domain false) (Rows.sparseValidSpec.post enc Try.prog Try.f3 false true false false) := by
  refine returnsInHanded_of_change (C := Try.checked) own started (by kernel_rfl) Try.func3
    (ChangeSpec.witness6 (enc := enc) (C := Try.checked) false ⟨#[], #[.agg #[.int .i64 0, .int .i64 0, .slice none 0 0]], []⟩ 8 (by kernel_rfl) (by kernel_rfl) (by kernel_rfl) (by kernel_rfl)) ?_
  intro W base args ds gs before hval0 hW hcnd _
  have hval : ∀ (j : Nat) t v, Try.f3.params[j]? = some t → args[j]? = some v → Value.okWide Try.prog W .any base t v := hval0
  have hW' := hW
  have hlt0 := hW.lt
  obtain ⟨p, q, hA0, hV, rfl, hfz, hnd⟩ := hW
  have hA : DataW.TrodAll enc Try.prog W 0 (fun _ => true) true Try.f3.params.toList args.toList ds p := hA0
  have hpar : Try.f3.params = #[24] := by kernel_rfl
  rw [hpar] at hA hval
  obtain ⟨v0, d0, rfl, rfl, h0⟩ := trodAll_one hA
  obtain ⟨rfl, rfl⟩ := trodVars_none hV
  have hv0 := hval 0 24 v0 rfl rfl
  obtain ⟨fuel, hf⟩ := h0
  obtain ⟨rows, cols, a, c, L, hcs, hR, hT⟩ := open_sparse hf
  obtain ⟨fs, hu⟩ : ∃ fs, Try.prog.underlying 24 = some (.struct fs) := ⟨_, rfl⟩
  obtain ⟨cells, rfl, _⟩ := okWide_struct hu hv0
  have hcells : cells = ⟨[.int .i64 rows, .int .i64 cols, .slice a L.length c]⟩ := by
    have : cells.toList = [.int .i64 rows, .int .i64 cols, .slice a L.length c] := hcs
    exact Array.ext' this
  subst hcells
  have hlaw := law_valid (h := HW W) (rows := rows) (cols := cols) (L := L) ⟨a, c, rfl, hR⟩ (fun r hr t ht => Nat.le_trans (hT r hr t ht) (by decide)) W (fun b o x => x)
  refine hlaw.mono ?_
  rintro e W' ⟨v, h', rfl, hb, _, _, _, rfl⟩
  refine ⟨_, rfl, [d0], [], _, [], p, [], hW', ?_, ?_, rfl, hb.frame _, fun h => by cases h⟩
  · exact trodAll_mk1 (shut_bool (by kernel_rfl) true)
  · exact trodAll_mk1 (Below.trod (by kernel_rfl) (by kernel_rfl) (of_decide_eq_true (by kernel_rfl)) ⟨fuel, hf⟩ hb (fun x hx => hlt0 x (by simpa using hx)))
/-- The statement. -/
theorem sparseValid_holds : Rows.SparseValidSaid :=
  OpenClaim.holds_of_wide (p := Try.pinned) (s := Rows.sparseValidSpec) (c := Rows.sparseValidRow) 3 Try.f3 rfl rfl rfl rfl rfl rfl rfl ⟨rfl, rfl, rfl, rfl, rfl⟩ rfl rfl rfl rfl rfl (by kernel_rfl) Try.func3 (by kernel_rfl)
    (of_decide_eq_true (by kernel_rfl)) (by unfold Func.isWrapper; first | (rw [if_pos (by decide +kernel)]; kernel_rfl) | (rw [if_neg (by decide +kernel)]; exact ⟨rfl, rfl⟩))
    (fun os started H enc _ => sparseValid_lifted os started H enc)
end Go.Proofs.Ytjdfhlkpfjhjoaa
