/- Plain laws about rows: merging. No program is named here. -/
import Derived.Test.YtjdfhlkpfjhjoaaSp3
set_option linter.unusedSimpArgs false
set_option linter.unusedVariables false
namespace Go.Z
def keep (t : Int × Int) : List (Int × Int) := if t.2 = 0 then [] else [t]
def mergeL (k : Int) : List (Int × Int) → List (Int × Int) → List (Int × Int)
  | [], [] => []
  | [], b :: m => keep (b.1, 0 + k * b.2) ++ mergeL k [] m
  | a :: l, [] => keep (a.1, a.2 + k * 0) ++ mergeL k l []
  | a :: l, b :: m =>
    if a.1 = b.1 then keep (a.1, a.2 + k * b.2) ++ mergeL k l m
    else if a.1 < b.1 then keep (a.1, a.2 + k * 0) ++ mergeL k l (b :: m)
    else keep (b.1, 0 + k * b.2) ++ mergeL k (a :: l) m
termination_by a b => a.length + b.length
theorem mergeL_nb (k : Int) (b : Int × Int) (m : List (Int × Int)) : mergeL k [] (b :: m) = keep (b.1, 0 + k * b.2) ++ mergeL k [] m := by rw [mergeL]
theorem mergeL_an (k : Int) (a : Int × Int) (l : List (Int × Int)) : mergeL k (a :: l) [] = keep (a.1, a.2 + k * 0) ++ mergeL k l [] := by rw [mergeL]
theorem mergeL_eq (k : Int) (a b : Int × Int) (l m : List (Int × Int)) (h : a.1 = b.1) : mergeL k (a :: l) (b :: m) = keep (a.1, a.2 + k * b.2) ++ mergeL k l m := by rw [mergeL, if_pos h]
theorem mergeL_lt (k : Int) (a b : Int × Int) (l m : List (Int × Int)) (h : a.1 < b.1) : mergeL k (a :: l) (b :: m) = keep (a.1, a.2 + k * 0) ++ mergeL k l (b :: m) := by rw [mergeL, if_neg (by omega), if_pos h]
theorem mergeL_gt (k : Int) (a b : Int × Int) (l m : List (Int × Int)) (h : b.1 < a.1) : mergeL k (a :: l) (b :: m) = keep (b.1, 0 + k * b.2) ++ mergeL k (a :: l) m := by rw [mergeL, if_neg (by omega), if_neg (by omega)]
theorem keep_pos {c v : Int} (h : ¬ v = 0) : keep (c, v) = [(c, v)] := if_neg h
theorem keep_zero {c v : Int} (h : v = 0) : keep (c, v) = [] := if_pos h
end Go.Z
