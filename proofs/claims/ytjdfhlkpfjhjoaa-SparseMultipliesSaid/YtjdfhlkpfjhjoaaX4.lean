/- Texts of ours, joined: Ty, Int, Int2. -/
import Derived.Test.YtjdfhlkpfjhjoaaProg
import Derived.Test.YtjdfhlkpfjhjoaaX2
import Derived.Test.YtjdfhlkpfjhjoaaX3
section
set_option linter.unusedSimpArgs false
set_option linter.unusedVariables false
/- What the calculus must know of the types and functions of this seat: closed facts, each asked of the kernel. -/
namespace Go.Z
open Go Go.Proofs
instance : Kd Try.prog 2 .i64 := ⟨by kernel_rfl⟩
instance : Pr Try.prog 2 := pr_of (by kernel_rfl)
instance : Sz Try.prog 2 1 := sz_of (by kernel_rfl)
instance : By Try.prog 2 8 := by_of (by kernel_rfl)
instance : Zv Try.prog 2 [.int .i64 0] := zv_of (by kernel_rfl)
instance : Kd Try.prog 3 .i64 := ⟨by kernel_rfl⟩
instance : Pr Try.prog 3 := pr_of (by kernel_rfl)
instance : Sz Try.prog 3 1 := sz_of (by kernel_rfl)
instance : By Try.prog 3 8 := by_of (by kernel_rfl)
instance : Zv Try.prog 3 [.int .i64 0] := zv_of (by kernel_rfl)
instance : Bl Try.prog 4 := ⟨by kernel_rfl⟩
instance : Pr Try.prog 4 := pr_of (by kernel_rfl)
instance : Sz Try.prog 4 1 := sz_of (by kernel_rfl)
instance : By Try.prog 4 1 := by_of (by kernel_rfl)
instance : Zv Try.prog 4 [.bool false] := zv_of (by kernel_rfl)
instance : Kd Try.prog 5 .u8 := ⟨by kernel_rfl⟩
instance : Pr Try.prog 5 := pr_of (by kernel_rfl)
instance : Sz Try.prog 5 1 := sz_of (by kernel_rfl)
instance : By Try.prog 5 1 := by_of (by kernel_rfl)
instance : Zv Try.prog 5 [.int .u8 0] := zv_of (by kernel_rfl)
instance : Pr Try.prog 9 := pr_of (by kernel_rfl)
instance : Sz Try.prog 9 1 := sz_of (by kernel_rfl)
instance : By Try.prog 9 16 := by_of (by kernel_rfl)
instance : Zv Try.prog 9 [.string ⟨#[]⟩] := zv_of (by kernel_rfl)
instance : Sl Try.prog 22 26 := ⟨by kernel_rfl⟩
instance : Pr Try.prog 22 := pr_of (by kernel_rfl)
instance : Sz Try.prog 22 1 := sz_of (by kernel_rfl)
instance : By Try.prog 22 24 := by_of (by kernel_rfl)
instance : Zv Try.prog 22 [.slice none 0 0] := zv_of (by kernel_rfl)
instance : Ag1 Try.prog 24 3 := ag_of (by kernel_rfl) (by kernel_rfl)
instance : Sz Try.prog 24 3 := sz_of (by kernel_rfl)
instance : By Try.prog 24 40 := by_of (by kernel_rfl)
instance : Zv Try.prog 24 [.int .i64 0, .int .i64 0, .slice none 0 0] := zv_of (by kernel_rfl)
instance : StF Try.prog 24 [(0, 1), (1, 1), (2, 1)] [.int .i64 0, .int .i64 0, .slice none 0 0] := stf_of (by kernel_rfl) inferInstance
instance : Fo Try.prog 24 0 0 := fo_of 1 (by kernel_rfl) rfl
instance : Fo Try.prog 24 1 1 := fo_of 1 (by kernel_rfl) rfl
instance : Fo Try.prog 24 2 2 := fo_of 1 (by kernel_rfl) rfl
instance : Sl Try.prog 26 71 := ⟨by kernel_rfl⟩
instance : Pr Try.prog 26 := pr_of (by kernel_rfl)
instance : Sz Try.prog 26 1 := sz_of (by kernel_rfl)
instance : By Try.prog 26 24 := by_of (by kernel_rfl)
instance : Zv Try.prog 26 [.slice none 0 0] := zv_of (by kernel_rfl)
instance : Sl Try.prog 28 29 := ⟨by kernel_rfl⟩
instance : Pr Try.prog 28 := pr_of (by kernel_rfl)
instance : Sz Try.prog 28 1 := sz_of (by kernel_rfl)
instance : By Try.prog 28 24 := by_of (by kernel_rfl)
instance : Zv Try.prog 28 [.slice none 0 0] := zv_of (by kernel_rfl)
instance : Kd Try.prog 29 .i8 := ⟨by kernel_rfl⟩
instance : Pr Try.prog 29 := pr_of (by kernel_rfl)
instance : Sz Try.prog 29 1 := sz_of (by kernel_rfl)
instance : By Try.prog 29 1 := by_of (by kernel_rfl)
instance : Zv Try.prog 29 [.int .i8 0] := zv_of (by kernel_rfl)
instance : Ag1 Try.prog 30 2 := ag_of (by kernel_rfl) (by kernel_rfl)
instance : Sz Try.prog 30 2 := sz_of (by kernel_rfl)
instance : By Try.prog 30 2 := by_of (by kernel_rfl)
instance : Zv Try.prog 30 [.int .i8 0, .int .i8 0] := zv_of (by kernel_rfl)
instance : Sl Try.prog 32 37 := ⟨by kernel_rfl⟩
instance : Pr Try.prog 32 := pr_of (by kernel_rfl)
instance : Sz Try.prog 32 1 := sz_of (by kernel_rfl)
instance : By Try.prog 32 24 := by_of (by kernel_rfl)
instance : Zv Try.prog 32 [.slice none 0 0] := zv_of (by kernel_rfl)
instance : Sl Try.prog 33 37 := ⟨by kernel_rfl⟩
instance : Pr Try.prog 33 := pr_of (by kernel_rfl)
instance : Sz Try.prog 33 1 := sz_of (by kernel_rfl)
instance : By Try.prog 33 24 := by_of (by kernel_rfl)
instance : Zv Try.prog 33 [.slice none 0 0] := zv_of (by kernel_rfl)
instance : Sl Try.prog 35 78 := ⟨by kernel_rfl⟩
instance : Pr Try.prog 35 := pr_of (by kernel_rfl)
instance : Sz Try.prog 35 1 := sz_of (by kernel_rfl)
instance : By Try.prog 35 24 := by_of (by kernel_rfl)
instance : Zv Try.prog 35 [.slice none 0 0] := zv_of (by kernel_rfl)
instance : Ag1 Try.prog 37 2 := ag_of (by kernel_rfl) (by kernel_rfl)
instance : Sz Try.prog 37 2 := sz_of (by kernel_rfl)
instance : By Try.prog 37 32 := by_of (by kernel_rfl)
instance : Zv Try.prog 37 [.bool false, .slice none 0 0] := zv_of (by kernel_rfl)
instance : StF Try.prog 37 [(0, 1), (1, 1)] [.bool false, .slice none 0 0] := stf_of (by kernel_rfl) inferInstance
instance : Fo Try.prog 37 0 0 := fo_of 1 (by kernel_rfl) rfl
instance : Fo Try.prog 37 1 1 := fo_of 1 (by kernel_rfl) rfl
instance : Pr Try.prog 41 := pr_of (by kernel_rfl)
instance : Sz Try.prog 41 1 := sz_of (by kernel_rfl)
instance : By Try.prog 41 8 := by_of (by kernel_rfl)
instance : Zv Try.prog 41 [.nilFunc] := zv_of (by kernel_rfl)
instance : Ag1 Try.prog 46 3 := ag_of (by kernel_rfl) (by kernel_rfl)
instance : Sz Try.prog 46 3 := sz_of (by kernel_rfl)
instance : By Try.prog 46 32 := by_of (by kernel_rfl)
instance : Zv Try.prog 46 [.int .u8 0, .int .u8 0, .slice none 0 0] := zv_of (by kernel_rfl)
instance : StF Try.prog 46 [(0, 1), (1, 1), (2, 1)] [.int .u8 0, .int .u8 0, .slice none 0 0] := stf_of (by kernel_rfl) inferInstance
instance : Fo Try.prog 46 0 0 := fo_of 1 (by kernel_rfl) rfl
instance : Fo Try.prog 46 1 1 := fo_of 1 (by kernel_rfl) rfl
instance : Fo Try.prog 46 2 2 := fo_of 1 (by kernel_rfl) rfl
instance : Sl Try.prog 48 32 := ⟨by kernel_rfl⟩
instance : Pr Try.prog 48 := pr_of (by kernel_rfl)
instance : Sz Try.prog 48 1 := sz_of (by kernel_rfl)
instance : By Try.prog 48 24 := by_of (by kernel_rfl)
instance : Zv Try.prog 48 [.slice none 0 0] := zv_of (by kernel_rfl)
instance : Ag1 Try.prog 50 3 := ag_of (by kernel_rfl) (by kernel_rfl)
instance : Sz Try.prog 50 3 := sz_of (by kernel_rfl)
instance : By Try.prog 50 40 := by_of (by kernel_rfl)
instance : Zv Try.prog 50 [.int .i64 0, .int .i64 0, .slice none 0 0] := zv_of (by kernel_rfl)
instance : StF Try.prog 50 [(0, 1), (1, 1), (2, 1)] [.int .i64 0, .int .i64 0, .slice none 0 0] := stf_of (by kernel_rfl) inferInstance
instance : Fo Try.prog 50 0 0 := fo_of 1 (by kernel_rfl) rfl
instance : Fo Try.prog 50 1 1 := fo_of 1 (by kernel_rfl) rfl
instance : Fo Try.prog 50 2 2 := fo_of 1 (by kernel_rfl) rfl
instance : Kd Try.prog 52 .i64 := ⟨by kernel_rfl⟩
instance : Pr Try.prog 52 := pr_of (by kernel_rfl)
instance : Sz Try.prog 52 1 := sz_of (by kernel_rfl)
instance : By Try.prog 52 8 := by_of (by kernel_rfl)
instance : Zv Try.prog 52 [.int .i64 0] := zv_of (by kernel_rfl)
instance : Ag1 Try.prog 71 3 := ag_of (by kernel_rfl) (by kernel_rfl)
instance : Sz Try.prog 71 3 := sz_of (by kernel_rfl)
instance : By Try.prog 71 40 := by_of (by kernel_rfl)
instance : Zv Try.prog 71 [.int .i64 0, .bool false, .slice none 0 0] := zv_of (by kernel_rfl)
instance : StF Try.prog 71 [(0, 1), (1, 2)] [.int .i64 0, .bool false, .slice none 0 0] := stf_of (by kernel_rfl) inferInstance
instance : Fo Try.prog 71 0 0 := fo_of 1 (by kernel_rfl) rfl
instance : Fo Try.prog 71 1 1 := fo_of 2 (by kernel_rfl) rfl
instance : Kd Try.prog 76 .u64 := ⟨by kernel_rfl⟩
instance : Pr Try.prog 76 := pr_of (by kernel_rfl)
instance : Sz Try.prog 76 1 := sz_of (by kernel_rfl)
instance : By Try.prog 76 8 := by_of (by kernel_rfl)
instance : Zv Try.prog 76 [.int .u64 0] := zv_of (by kernel_rfl)
instance : Kd Try.prog 78 .u32 := ⟨by kernel_rfl⟩
instance : Pr Try.prog 78 := pr_of (by kernel_rfl)
instance : Sz Try.prog 78 1 := sz_of (by kernel_rfl)
instance : By Try.prog 78 4 := by_of (by kernel_rfl)
instance : Zv Try.prog 78 [.int .u32 0] := zv_of (by kernel_rfl)
instance : Kd Try.prog 79 .u64 := ⟨by kernel_rfl⟩
instance : Pr Try.prog 79 := pr_of (by kernel_rfl)
instance : Sz Try.prog 79 1 := sz_of (by kernel_rfl)
instance : By Try.prog 79 8 := by_of (by kernel_rfl)
instance : Zv Try.prog 79 [.int .u64 0] := zv_of (by kernel_rfl)
instance : Pr Try.prog 80 := pr_of (by kernel_rfl)
instance : Sz Try.prog 80 1 := sz_of (by kernel_rfl)
instance : By Try.prog 80 8 := by_of (by kernel_rfl)
instance : Zv Try.prog 80 [.nilFunc] := zv_of (by kernel_rfl)
instance : Pr Try.prog 81 := pr_of (by kernel_rfl)
instance : Sz Try.prog 81 1 := sz_of (by kernel_rfl)
instance : By Try.prog 81 8 := by_of (by kernel_rfl)
instance : Zv Try.prog 81 [.nilFunc] := zv_of (by kernel_rfl)
instance : Pr Try.prog 90 := pr_of (by kernel_rfl)
instance : Sz Try.prog 90 1 := sz_of (by kernel_rfl)
instance : By Try.prog 90 8 := by_of (by kernel_rfl)
instance : Zv Try.prog 90 [.nilFunc] := zv_of (by kernel_rfl)
instance : Pr Try.prog 92 := pr_of (by kernel_rfl)
instance : Sz Try.prog 92 1 := sz_of (by kernel_rfl)
instance : By Try.prog 92 8 := by_of (by kernel_rfl)
instance : Zv Try.prog 92 [.nilFunc] := zv_of (by kernel_rfl)
instance : Sl Try.prog 94 22 := ⟨by kernel_rfl⟩
instance : Pr Try.prog 94 := pr_of (by kernel_rfl)
instance : Sz Try.prog 94 1 := sz_of (by kernel_rfl)
instance : By Try.prog 94 24 := by_of (by kernel_rfl)
instance : Zv Try.prog 94 [.slice none 0 0] := zv_of (by kernel_rfl)
instance : Pr Try.prog 96 := pr_of (by kernel_rfl)
instance : Sz Try.prog 96 1 := sz_of (by kernel_rfl)
instance : By Try.prog 96 8 := by_of (by kernel_rfl)
instance : Zv Try.prog 96 [.map none] := zv_of (by kernel_rfl)
instance : Sl Try.prog 97 3 := ⟨by kernel_rfl⟩
instance : Pr Try.prog 97 := pr_of (by kernel_rfl)
instance : Sz Try.prog 97 1 := sz_of (by kernel_rfl)
instance : By Try.prog 97 24 := by_of (by kernel_rfl)
instance : Zv Try.prog 97 [.slice none 0 0] := zv_of (by kernel_rfl)
instance : Pr Try.prog 99 := pr_of (by kernel_rfl)
instance : Sz Try.prog 99 1 := sz_of (by kernel_rfl)
instance : By Try.prog 99 8 := by_of (by kernel_rfl)
instance : Zv Try.prog 99 [.nilFunc] := zv_of (by kernel_rfl)
instance : Pr Try.prog 100 := pr_of (by kernel_rfl)
instance : Sz Try.prog 100 1 := sz_of (by kernel_rfl)
instance : By Try.prog 100 8 := by_of (by kernel_rfl)
instance : Zv Try.prog 100 [.nilFunc] := zv_of (by kernel_rfl)
instance : Pr Try.prog 102 := pr_of (by kernel_rfl)
instance : Sz Try.prog 102 1 := sz_of (by kernel_rfl)
instance : By Try.prog 102 8 := by_of (by kernel_rfl)
instance : Zv Try.prog 102 [.nilFunc] := zv_of (by kernel_rfl)
instance : Pr Try.prog 104 := pr_of (by kernel_rfl)
instance : Sz Try.prog 104 1 := sz_of (by kernel_rfl)
instance : By Try.prog 104 8 := by_of (by kernel_rfl)
instance : Zv Try.prog 104 [.nilFunc] := zv_of (by kernel_rfl)
instance : Pr Try.prog 111 := pr_of (by kernel_rfl)
instance : Sz Try.prog 111 1 := sz_of (by kernel_rfl)
instance : By Try.prog 111 8 := by_of (by kernel_rfl)
instance : Zv Try.prog 111 [.nilFunc] := zv_of (by kernel_rfl)
instance : Kd Try.prog 117 .i64 := ⟨by kernel_rfl⟩
instance : Pr Try.prog 117 := pr_of (by kernel_rfl)
instance : Sz Try.prog 117 1 := sz_of (by kernel_rfl)
instance : By Try.prog 117 8 := by_of (by kernel_rfl)
instance : Zv Try.prog 117 [.int .i64 0] := zv_of (by kernel_rfl)
instance : Kd Try.prog 126 .u64 := ⟨by kernel_rfl⟩
instance : Pr Try.prog 126 := pr_of (by kernel_rfl)
instance : Sz Try.prog 126 1 := sz_of (by kernel_rfl)
instance : By Try.prog 126 8 := by_of (by kernel_rfl)
instance : Zv Try.prog 126 [.int .u64 0] := zv_of (by kernel_rfl)
instance : Pr Try.prog 130 := pr_of (by kernel_rfl)
instance : Sz Try.prog 130 1 := sz_of (by kernel_rfl)
instance : By Try.prog 130 8 := by_of (by kernel_rfl)
instance : Zv Try.prog 130 [.pointer none] := zv_of (by kernel_rfl)
instance : Pr Try.prog 132 := pr_of (by kernel_rfl)
instance : Sz Try.prog 132 1 := sz_of (by kernel_rfl)
instance : By Try.prog 132 8 := by_of (by kernel_rfl)
instance : Zv Try.prog 132 [.pointer none] := zv_of (by kernel_rfl)
instance : Ent Try.prog 3 := ent_of Try.func3 (by kernel_rfl)
instance : Ent Try.prog 4 := ent_of Try.func4 (by kernel_rfl)
instance : Ent Try.prog 5 := ent_of Try.func5 (by kernel_rfl)
instance : Ent Try.prog 6 := ent_of Try.func6 (by kernel_rfl)
instance : Ent Try.prog 7 := ent_of Try.func7 (by kernel_rfl)
instance : Ent Try.prog 8 := ent_of Try.func8 (by kernel_rfl)
instance : Ent Try.prog 9 := ent_of Try.func9 (by kernel_rfl)
instance : Ent Try.prog 10 := ent_of Try.func10 (by kernel_rfl)
instance : Ent Try.prog 11 := ent_of Try.func11 (by kernel_rfl)
instance : Ent Try.prog 12 := ent_of Try.func12 (by kernel_rfl)
instance : Ent Try.prog 13 := ent_of Try.func13 (by kernel_rfl)
instance : Ent Try.prog 14 := ent_of Try.func14 (by kernel_rfl)
instance : Ent Try.prog 15 := ent_of Try.func15 (by kernel_rfl)
instance : Ent Try.prog 16 := ent_of Try.func16 (by kernel_rfl)
instance : Ent Try.prog 17 := ent_of Try.func17 (by kernel_rfl)
instance : Ent Try.prog 18 := ent_of Try.func18 (by kernel_rfl)
instance : Ent Try.prog 19 := ent_of Try.func19 (by kernel_rfl)
instance : Ent Try.prog 20 := ent_of Try.func20 (by kernel_rfl)
instance : Ent Try.prog 21 := ent_of Try.func21 (by kernel_rfl)
instance : Ent Try.prog 22 := ent_of Try.func22 (by kernel_rfl)
instance : Ent Try.prog 23 := ent_of Try.func23 (by kernel_rfl)
instance : Ent Try.prog 24 := ent_of Try.func24 (by kernel_rfl)
instance : Ent Try.prog 25 := ent_of Try.func25 (by kernel_rfl)
instance : Ent Try.prog 26 := ent_of Try.func26 (by kernel_rfl)
instance : Ent Try.prog 27 := ent_of Try.func27 (by kernel_rfl)
instance : Ent Try.prog 28 := ent_of Try.func28 (by kernel_rfl)
instance : Ent Try.prog 29 := ent_of Try.func29 (by kernel_rfl)
instance : Ent Try.prog 30 := ent_of Try.func30 (by kernel_rfl)
instance : Ent Try.prog 31 := ent_of Try.func31 (by kernel_rfl)
instance : Ent Try.prog 32 := ent_of Try.func32 (by kernel_rfl)
instance : Ent Try.prog 33 := ent_of Try.func33 (by kernel_rfl)
instance : Ent Try.prog 34 := ent_of Try.func34 (by kernel_rfl)
instance : Ent Try.prog 35 := ent_of Try.func35 (by kernel_rfl)
instance : Ent Try.prog 36 := ent_of Try.func36 (by kernel_rfl)
instance : Ent Try.prog 37 := ent_of Try.func37 (by kernel_rfl)
instance : Ent Try.prog 38 := ent_of Try.func38 (by kernel_rfl)
instance : Ent Try.prog 39 := ent_of Try.func39 (by kernel_rfl)
instance : Ent Try.prog 40 := ent_of Try.func40 (by kernel_rfl)
instance : Ent Try.prog 41 := ent_of Try.func41 (by kernel_rfl)
instance : Ent Try.prog 42 := ent_of Try.func42 (by kernel_rfl)
instance : Ent Try.prog 43 := ent_of Try.func43 (by kernel_rfl)
instance : Ent Try.prog 44 := ent_of Try.func44 (by kernel_rfl)
instance : Ent Try.prog 45 := ent_of Try.func45 (by kernel_rfl)
instance : Ent Try.prog 46 := ent_of Try.func46 (by kernel_rfl)
instance : Ent Try.prog 47 := ent_of Try.func47 (by kernel_rfl)
instance : Ent Try.prog 48 := ent_of Try.func48 (by kernel_rfl)
instance : Ent Try.prog 49 := ent_of Try.func49 (by kernel_rfl)
instance : Ent Try.prog 50 := ent_of Try.func50 (by kernel_rfl)
instance : Ent Try.prog 51 := ent_of Try.func51 (by kernel_rfl)
instance : Ent Try.prog 52 := ent_of Try.func52 (by kernel_rfl)
instance : Ent Try.prog 53 := ent_of Try.func53 (by kernel_rfl)
instance : Ent Try.prog 54 := ent_of Try.func54 (by kernel_rfl)
instance : Ent Try.prog 55 := ent_of Try.func55 (by kernel_rfl)
instance : Ent Try.prog 56 := ent_of Try.func56 (by kernel_rfl)
instance : Ent Try.prog 57 := ent_of Try.func57 (by kernel_rfl)
instance : Ent Try.prog 58 := ent_of Try.func58 (by kernel_rfl)
instance : Ent Try.prog 59 := ent_of Try.func59 (by kernel_rfl)
instance : Ent Try.prog 60 := ent_of Try.func60 (by kernel_rfl)
instance : Ent Try.prog 61 := ent_of Try.func61 (by kernel_rfl)
instance : Ent Try.prog 62 := ent_of Try.func62 (by kernel_rfl)
instance : Ent Try.prog 63 := ent_of Try.func63 (by kernel_rfl)
instance : Ent Try.prog 64 := ent_of Try.func64 (by kernel_rfl)
instance : Ent Try.prog 65 := ent_of Try.func65 (by kernel_rfl)
instance : Ent Try.prog 66 := ent_of Try.func66 (by kernel_rfl)
instance : Ent Try.prog 67 := ent_of Try.func67 (by kernel_rfl)
instance : Ent Try.prog 68 := ent_of Try.func68 (by kernel_rfl)
instance : Ent Try.prog 69 := ent_of Try.func69 (by kernel_rfl)
instance : Ent Try.prog 70 := ent_of Try.func70 (by kernel_rfl)
instance : Ent Try.prog 71 := ent_of Try.func71 (by kernel_rfl)
instance : Ent Try.prog 72 := ent_of Try.func72 (by kernel_rfl)
instance : Ent Try.prog 73 := ent_of Try.func73 (by kernel_rfl)
instance : Ent Try.prog 74 := ent_of Try.func74 (by kernel_rfl)
instance : Ent Try.prog 75 := ent_of Try.func75 (by kernel_rfl)
instance : Ent Try.prog 76 := ent_of Try.func76 (by kernel_rfl)
instance : Ent Try.prog 77 := ent_of Try.func77 (by kernel_rfl)
instance : Ent Try.prog 78 := ent_of Try.func78 (by kernel_rfl)
instance : Ent Try.prog 79 := ent_of Try.func79 (by kernel_rfl)
instance : Ent Try.prog 80 := ent_of Try.func80 (by kernel_rfl)
instance : Ent Try.prog 81 := ent_of Try.func81 (by kernel_rfl)
instance : Ent Try.prog 82 := ent_of Try.func82 (by kernel_rfl)
instance : Ent Try.prog 83 := ent_of Try.func83 (by kernel_rfl)
instance : Ent Try.prog 84 := ent_of Try.func84 (by kernel_rfl)
instance : Ent Try.prog 85 := ent_of Try.func85 (by kernel_rfl)
instance : Ent Try.prog 86 := ent_of Try.func86 (by kernel_rfl)
instance : Ent Try.prog 87 := ent_of Try.func87 (by kernel_rfl)
instance : Ent Try.prog 88 := ent_of Try.func88 (by kernel_rfl)
instance : Ent Try.prog 89 := ent_of Try.func89 (by kernel_rfl)
instance : Ent Try.prog 90 := ent_of Try.func90 (by kernel_rfl)
instance : Ent Try.prog 91 := ent_of Try.func91 (by kernel_rfl)
instance : Ent Try.prog 92 := ent_of Try.func92 (by kernel_rfl)
instance : Ent Try.prog 93 := ent_of Try.func93 (by kernel_rfl)
instance : Ent Try.prog 94 := ent_of Try.func94 (by kernel_rfl)
instance : Ent Try.prog 95 := ent_of Try.func95 (by kernel_rfl)
instance : Ent Try.prog 96 := ent_of Try.func96 (by kernel_rfl)
instance : Ent Try.prog 97 := ent_of Try.func97 (by kernel_rfl)
instance : Ent Try.prog 98 := ent_of Try.func98 (by kernel_rfl)
instance : Ent Try.prog 99 := ent_of Try.func99 (by kernel_rfl)
instance : Ent Try.prog 100 := ent_of Try.func100 (by kernel_rfl)
instance : Ent Try.prog 101 := ent_of Try.func101 (by kernel_rfl)
instance : Ent Try.prog 102 := ent_of Try.func102 (by kernel_rfl)
instance : Ent Try.prog 103 := ent_of Try.func103 (by kernel_rfl)
instance : Mix Try.prog := ⟨by kernel_rfl⟩
end Go.Z
end
section
set_option linter.unusedSimpArgs false
set_option linter.unusedVariables false
/- The functions of package integer and of its reference, walked: what each gives, for integers of any size. -/
set_option linter.unusedSimpArgs false
set_option linter.unusedVariables false
namespace Go.Z
open Go Go.RowKit Go.Proofs
theorem norm_fn {h : Heap} {v : Value} {l : List Nat} {neg : Bool} (hv : MagAt h v l) (hN : l.length ≤ 1000000000) :
    Fn Try.prog 66 #[v, .bool neg] h fun r h' => IntAt h' r (if neg then -(val l : Int) else (val l : Int)) := by
  obtain ⟨p, c, rfl, hc⟩ := hv.out
  refine Fn.intro (args := [_, _]) Try.func66 rfl rfl (Nat.le_of_ble_eq_true rfl) fun w => ?_
  refine J.seq ?_
  refine J.region ?_
  refine o_al (fun b4 => ?_)
  refine JL.nil ?_
  refine J.scope ?_
  refine J.seq ?_
  refine J.region ?_
  first | refine o_q (q_mvv (v := .slice _ _ _) rfl) ?_ | refine o_q (q_mv) ?_
  refine o_q (q_len rfl) ?_
  first | refine o_q (q_asv (v := .int _ _) rfl) ?_ | refine o_q (q_as) ?_
  refine JL.nil ?_
  refine J.seq ?_
  refine J.label ?_
  -- cut: kept [0, 1, 4], said [5]
  first | refine J.cutK (α := Nat) (fun m h' L' => m ≤ l.length ∧ l.take m = trim l ∧ L' = [(b4, row 37 [.bool false, .slice none 0 0])]) [(0, .slice _ _ _), (1, .bool _), (4, .pointer _)] ⟨rfl, rfl, rfl, trivial⟩ (fun m => [(5, .int .i64 (m : Int))]) ?_ ?_ | refine J.cutK (α := Nat) (fun m h' L' => m ≤ l.length ∧ l.take m = trim l ∧ L' = [(b4, row 37 [.bool false, .slice none 0 0])]) [(0, _), (1, _), (4, _)] ⟨rfl, rfl, rfl, trivial⟩ (fun m => [(5, .int .i64 (m : Int))]) ?_ ?_
  ·
    refine J.block ?_
    -- loop 0: kept [0, 1, 4], said [5]
    first | refine J.loopK (α := Nat) (fun m h' L' => m ≤ l.length ∧ (∀ j x, m ≤ j → l[j]? = some x → x = 0) ∧ L' = [(b4, row 37 [.bool false, .slice none 0 0])]) [(0, .slice _ _ _), (1, .bool _), (4, .pointer _)] ⟨rfl, rfl, rfl, trivial⟩ (fun m => [(5, .int .i64 (m : Int))]) (fun m => m) (l.length) ⟨Nat.le_refl _, fun j x hj hx => (by rw [List.getElem?_eq_none hj] at hx; cases hx), rfl⟩ ⟨rfl, trivial⟩ ?_ | refine J.loopK (α := Nat) (fun m h' L' => m ≤ l.length ∧ (∀ j x, m ≤ j → l[j]? = some x → x = 0) ∧ L' = [(b4, row 37 [.bool false, .slice none 0 0])]) [(0, _), (1, _), (4, _)] ⟨rfl, rfl, rfl, trivial⟩ (fun m => [(5, .int .i64 (m : Int))]) (fun m => m) (l.length) ⟨Nat.le_refl _, fun j x hj hx => (by rw [List.getElem?_eq_none hj] at hx; cases hx), rfl⟩ ⟨rfl, trivial⟩ ?_
    rintro m σ h1 L1 s1 ⟨hm, hz, rfl⟩
    refine J.seq ?_
    refine J.seq ?_
    refine J.region ?_
    first | refine o_q (q_mvv (v := .int _ _) rfl) ?_ | refine o_q (q_mv) ?_
    refine o_q (q_gtr rfl rfl) ?_
    refine JL.nil ?_
    refine J.condD rfl (fun c0 => ?_) (fun c0 => ?_)
    ·
      refine J.skip ?_
      refine J.block ?_
      refine J.seq ?_
      refine J.seq ?_
      refine J.region ?_
      first | refine o_q (q_mvv (v := .slice _ _ _) rfl) ?_ | refine o_q (q_mv) ?_
      first | refine o_q (q_mvv (v := .int _ _) rfl) ?_ | refine o_q (q_mv) ?_
      refine o_q (q_sub (c := ((m - 1 : Nat) : Int)) rfl rfl (by rw [wi64 (by omega)]; omega)) ?_
      obtain ⟨b, o, x, rfl, hx, hxb, hcell⟩ := MagAt.limb (j := m - 1) hv (by omega)
      refine o_q (q_ia rfl rfl (by omega)) ?_
      refine o_q (q_ldf rfl hcell) ?_
      refine o_q (q_neq rfl rfl) ?_
      refine JL.nil ?_
      refine J.condD rfl (fun hx0 => ?_) (fun hx0 => ?_)
      ·
        refine J.exit ?_
        exact ⟨m, rfl, ⟨rfl, rfl, rfl, trivial⟩, ⟨rfl, trivial⟩, ⟨hm, take_trim hm hz (fun y hy0 hy => by first | (rw [hx] at hy; cases hy; omega) | omega), rfl⟩, inferInstance⟩
      ·
        refine J.skip ?_
        refine J.region ?_
        first | refine o_q (q_mvv (v := .int _ _) rfl) ?_ | refine o_q (q_mv) ?_
        refine o_q (q_sub (c := ((m - 1 : Nat) : Int)) rfl rfl (by rw [wi64 (by omega)]; omega)) ?_
        first | refine o_q (q_asv (v := .int _ _) rfl) ?_ | refine o_q (q_as) ?_
        refine JL.nil ?_
        exact ⟨m - 1, rfl, ⟨rfl, rfl, rfl, trivial⟩, ⟨rfl, trivial⟩, ⟨by omega, fun j y hj hy => by
          rcases Nat.lt_or_ge j m with h2 | h2
          · obtain rfl : j = m - 1 := by omega
            rw [hx] at hy; cases hy; omega
          · exact hz j y h2 hy, rfl⟩, by omega, inferInstance⟩
    ·
      refine J.exit ?_
      exact ⟨m, rfl, ⟨rfl, rfl, rfl, trivial⟩, ⟨rfl, trivial⟩, ⟨hm, take_trim hm hz (fun y hy0 hy => by first | (rw [hx] at hy; cases hy; omega) | omega), rfl⟩, inferInstance⟩
  ·
    rintro m σ2 h2 L2 s2 ⟨hm, ht, rfl⟩
    refine J.seq ?_
    cases neg
    ·
      refine J.region ?_
      first | refine o_q (q_mvv (v := .bool _) rfl) ?_ | refine o_q (q_mv) ?_
      first | refine o_q (q_mvv (v := .bool _) rfl) ?_ | refine o_q (q_mv) ?_
      refine JL.guardF rfl rfl rfl rfl ?_
      refine JL.guardF rfl rfl rfl rfl ?_
      refine o_q (q_pickF rfl rfl) ?_
      first | refine o_q (q_mvv (v := .slice _ _ _) rfl) ?_ | refine o_q (q_mv) ?_
      first | refine o_q (q_mvv (v := .int _ _) rfl) ?_ | refine o_q (q_mv) ?_
      first | refine o_q (q_mvv (v := .int _ _) rfl) ?_ | refine o_q (q_mv) ?_
      refine o_q (q_slHM rfl rfl rfl (by omega)) ?_
      first | refine o_q (q_bd [.bool _, .slice _ _ _] rfl) ?_ | refine o_q (q_bd [_, _] rfl) ?_
      refine o_stw (vs := [_, _]) rfl rfl rfl inferInstance rfl rfl ?_
      refine JL.nil ?_
      refine J.ret ?_
      have hmag : MagAt h2 (.slice p m m) (l.take m) := (hv.take hm (Nat.le_refl m)).mono
      have hi := fun neg => IntAt.mk (neg := neg) hmag (by rw [ht, trim_eq hv.2, trim_limbs])
      simp only [ht, val_take_trim hv.2] at hi
      have hd : decide (0 < (m : Int)) = decide (trim l ≠ []) := by
        rw [← ht]; refine decide_eq_decide.2 ⟨fun h1 h2 => ?_, fun h1 => ?_⟩
        · have := congrArg List.length h2; rw [List.length_take, List.length_nil] at this; omega
        · rcases Nat.eq_zero_or_pos m with h3 | h3
          · subst h3; simp at h1
          · omega
      refine ret_ok (fn := Try.f66) rfl (.agg rfl inferInstance inferInstance .nil) ?_
      first | exact hi false | (have := hi true; rw [Bool.true_and, ← hd] at this; exact this)
    ·
      refine J.region ?_
      first | refine o_q (q_mvv (v := .bool _) rfl) ?_ | refine o_q (q_mv) ?_
      first | refine o_q (q_mvv (v := .bool _) rfl) ?_ | refine o_q (q_mv) ?_
      refine JL.guardT rfl rfl rfl ?_
      first | refine o_q (q_mvv (v := .int _ _) rfl) ?_ | refine o_q (q_mv) ?_
      refine JL.guardT rfl rfl rfl ?_
      refine o_q (q_gtr rfl rfl) ?_
      first | refine o_q (q_pickTv (v := .bool _) rfl rfl rfl) ?_ | refine o_q (q_pickT rfl rfl) ?_
      first | refine o_q (q_mvv (v := .slice _ _ _) rfl) ?_ | refine o_q (q_mv) ?_
      first | refine o_q (q_mvv (v := .int _ _) rfl) ?_ | refine o_q (q_mv) ?_
      first | refine o_q (q_mvv (v := .int _ _) rfl) ?_ | refine o_q (q_mv) ?_
      refine o_q (q_slHM rfl rfl rfl (by omega)) ?_
      first | refine o_q (q_bd [.bool _, .slice _ _ _] rfl) ?_ | refine o_q (q_bd [_, _] rfl) ?_
      refine o_stw (vs := [_, _]) rfl rfl rfl inferInstance rfl rfl ?_
      refine JL.nil ?_
      refine J.ret ?_
      have hmag : MagAt h2 (.slice p m m) (l.take m) := (hv.take hm (Nat.le_refl m)).mono
      have hi := fun neg => IntAt.mk (neg := neg) hmag (by rw [ht, trim_eq hv.2, trim_limbs])
      simp only [ht, val_take_trim hv.2] at hi
      have hd : decide (0 < (m : Int)) = decide (trim l ≠ []) := by
        rw [← ht]; refine decide_eq_decide.2 ⟨fun h1 h2 => ?_, fun h1 => ?_⟩
        · have := congrArg List.length h2; rw [List.length_take, List.length_nil] at this; omega
        · rcases Nat.eq_zero_or_pos m with h3 | h3
          · subst h3; simp at h1
          · omega
      refine ret_ok (fn := Try.f66) rfl (.agg rfl inferInstance inferInstance .nil) ?_
      first | exact hi false | (have := hi true; rw [Bool.true_and, ← hd] at this; exact this)
theorem made_fn {h : Heap} {v : Value} {l : List Nat} {neg : Bool} (hv : MagAt h v l) (hN : l.length ≤ 1000000000) :
    Fn Try.prog 48 #[v, .bool neg] h fun r h' => IntAt h' r (if neg then -(val l : Int) else (val l : Int)) := by
  obtain ⟨p, c, rfl, hc⟩ := hv.out
  refine Fn.intro (args := [_, _]) Try.func48 rfl rfl (Nat.le_of_ble_eq_true rfl) fun w => ?_
  refine J.seq ?_
  refine J.region ?_
  refine o_al (fun b4 => ?_)
  refine JL.nil ?_
  refine J.seq ?_
  refine J.region ?_
  first | refine o_q (q_mvv (v := .slice _ _ _) rfl) ?_ | refine o_q (q_mv) ?_
  refine o_q (q_len rfl) ?_
  first | refine o_q (q_asv (v := .int _ _) rfl) ?_ | refine o_q (q_as) ?_
  refine JL.nil ?_
  -- cut: kept [0, 1, 4], said [5]
  first | refine J.cutK (α := Nat) (fun m h' L' => m ≤ l.length ∧ l.take m = trim l ∧ L' = [(b4, row 37 [.bool false, .slice none 0 0])]) [(0, .slice _ _ _), (1, .bool _), (4, .pointer _)] ⟨rfl, rfl, rfl, trivial⟩ (fun m => [(5, .int .i64 (m : Int))]) ?_ ?_ | refine J.cutK (α := Nat) (fun m h' L' => m ≤ l.length ∧ l.take m = trim l ∧ L' = [(b4, row 37 [.bool false, .slice none 0 0])]) [(0, _), (1, _), (4, _)] ⟨rfl, rfl, rfl, trivial⟩ (fun m => [(5, .int .i64 (m : Int))]) ?_ ?_
  ·
    refine J.block ?_
    -- loop 0: kept [0, 1, 4], said [5]
    first | refine J.loopK (α := Nat) (fun m h' L' => m ≤ l.length ∧ (∀ j x, m ≤ j → l[j]? = some x → x = 0) ∧ L' = [(b4, row 37 [.bool false, .slice none 0 0])]) [(0, .slice _ _ _), (1, .bool _), (4, .pointer _)] ⟨rfl, rfl, rfl, trivial⟩ (fun m => [(5, .int .i64 (m : Int))]) (fun m => m) (l.length) ⟨Nat.le_refl _, fun j x hj hx => (by rw [List.getElem?_eq_none hj] at hx; cases hx), rfl⟩ ⟨rfl, trivial⟩ ?_ | refine J.loopK (α := Nat) (fun m h' L' => m ≤ l.length ∧ (∀ j x, m ≤ j → l[j]? = some x → x = 0) ∧ L' = [(b4, row 37 [.bool false, .slice none 0 0])]) [(0, _), (1, _), (4, _)] ⟨rfl, rfl, rfl, trivial⟩ (fun m => [(5, .int .i64 (m : Int))]) (fun m => m) (l.length) ⟨Nat.le_refl _, fun j x hj hx => (by rw [List.getElem?_eq_none hj] at hx; cases hx), rfl⟩ ⟨rfl, trivial⟩ ?_
    rintro m σ h1 L1 s1 ⟨hm, hz, rfl⟩
    refine J.seq ?_
    refine J.seq ?_
    rcases Nat.eq_zero_or_pos m with hm0 | hm0
    ·
      refine J.region ?_
      first | refine o_q (q_mvv (v := .int _ _) rfl) ?_ | refine o_q (q_mv) ?_
      refine o_q (q_gtr rfl rfl) ?_
      first | refine o_q (q_mvv (v := .bool _) rfl) ?_ | refine o_q (q_mv) ?_
      refine JL.guardF rfl rfl (decide_eq_false (by omega)) rfl ?_
      refine JL.guardF rfl rfl (decide_eq_false (by omega)) rfl ?_
      refine JL.guardF rfl rfl (decide_eq_false (by omega)) rfl ?_
      refine JL.guardF rfl rfl (decide_eq_false (by omega)) rfl ?_
      refine JL.guardF rfl rfl (decide_eq_false (by omega)) rfl ?_
      refine JL.guardF rfl rfl (decide_eq_false (by omega)) rfl ?_
      refine o_q (q_pickF rfl (decide_eq_false (by omega))) ?_
      refine JL.nil ?_
      refine J.condF rfl rfl ?_
      refine J.exit ?_
      exact ⟨m, rfl, ⟨rfl, rfl, rfl, trivial⟩, ⟨rfl, trivial⟩, ⟨hm, take_trim hm hz (fun y hy0 hy => by first | (rw [hx] at hy; cases hy; omega) | omega), rfl⟩, inferInstance⟩
    ·
      refine J.region ?_
      first | refine o_q (q_mvv (v := .int _ _) rfl) ?_ | refine o_q (q_mv) ?_
      refine o_q (q_gtr rfl rfl) ?_
      first | refine o_q (q_mvv (v := .bool _) rfl) ?_ | refine o_q (q_mv) ?_
      refine JL.guardT rfl rfl (decide_eq_true (by omega)) ?_
      first | refine o_q (q_mvv (v := .slice _ _ _) rfl) ?_ | refine o_q (q_mv) ?_
      refine JL.guardT rfl rfl (decide_eq_true (by omega)) ?_
      first | refine o_q (q_mvv (v := .int _ _) rfl) ?_ | refine o_q (q_mv) ?_
      refine JL.guardT rfl rfl (decide_eq_true (by omega)) ?_
      refine o_q (q_sub (c := ((m - 1 : Nat) : Int)) rfl rfl (by rw [wi64 (by omega)]; omega)) ?_
      refine JL.guardT rfl rfl (decide_eq_true (by omega)) ?_
      obtain ⟨b, o, x, rfl, hx, hxb, hcell⟩ := MagAt.limb (j := m - 1) hv (by omega)
      refine o_q (q_ia rfl rfl (by omega)) ?_
      refine JL.guardT rfl rfl (decide_eq_true (by omega)) ?_
      refine o_q (q_ldf rfl hcell) ?_
      refine JL.guardT rfl rfl (decide_eq_true (by omega)) ?_
      refine o_q (q_eql rfl rfl) ?_
      first | refine o_q (q_pickTv (v := .bool _) rfl (decide_eq_true (by omega)) rfl) ?_ | refine o_q (q_pickT rfl (decide_eq_true (by omega))) ?_
      refine JL.nil ?_
      refine J.condD rfl (fun hx0 => ?_) (fun hx0 => ?_)
      ·
        refine J.skip ?_
        refine J.block ?_
        refine J.region ?_
        first | refine o_q (q_mvv (v := .int _ _) rfl) ?_ | refine o_q (q_mv) ?_
        refine o_q (q_sub (c := ((m - 1 : Nat) : Int)) rfl rfl (by rw [wi64 (by omega)]; omega)) ?_
        first | refine o_q (q_asv (v := .int _ _) rfl) ?_ | refine o_q (q_as) ?_
        refine JL.nil ?_
        exact ⟨m - 1, rfl, ⟨rfl, rfl, rfl, trivial⟩, ⟨rfl, trivial⟩, ⟨by omega, fun j y hj hy => by
          rcases Nat.lt_or_ge j m with h2 | h2
          · obtain rfl : j = m - 1 := by omega
            rw [hx] at hy; cases hy; omega
          · exact hz j y h2 hy, rfl⟩, by omega, inferInstance⟩
      ·
        refine J.exit ?_
        exact ⟨m, rfl, ⟨rfl, rfl, rfl, trivial⟩, ⟨rfl, trivial⟩, ⟨hm, take_trim hm hz (fun y hy0 hy => by first | (rw [hx] at hy; cases hy; omega) | omega), rfl⟩, inferInstance⟩
  ·
    rintro m σ2 h2 L2 s2 ⟨hm, ht, rfl⟩
    refine J.seq ?_
    cases neg
    ·
      refine J.region ?_
      first | refine o_q (q_mvv (v := .bool _) rfl) ?_ | refine o_q (q_mv) ?_
      first | refine o_q (q_mvv (v := .bool _) rfl) ?_ | refine o_q (q_mv) ?_
      refine JL.guardF rfl rfl rfl rfl ?_
      refine JL.guardF rfl rfl rfl rfl ?_
      refine o_q (q_pickF rfl rfl) ?_
      refine o_bs [] (by decide) rfl (fun b25 => ?_)
      first | refine o_q (q_mvv (v := .slice _ _ _) rfl) ?_ | refine o_q (q_mv) ?_
      first | refine o_q (q_mvv (v := .int _ _) rfl) ?_ | refine o_q (q_mv) ?_
      refine o_q (q_slH rfl rfl (by omega)) ?_
      have hsl : MagAt h2 (.slice p m c) (l.take m) := (hv.take hm (Nat.le_trans hm hc)).mono
      refine o_app (Lb := [(b25, row 78 [])]) rfl rfl (OwnS.lit (xs := []) (n := 0) rfl) inferInstance (src_fro hsl.1 (u32s_plain _)) (by rw [List.length_take]; omega) (fun v4 L4 ho => ?_)
      obtain ⟨p4, c4, rfl⟩ := ho.out
      refine JL.fzS ho (fun h4 s4 hs4 => ?_)
      first | refine o_q (q_bd [.bool _, .slice _ _ _] rfl) ?_ | refine o_q (q_bd [_, _] rfl) ?_
      refine o_stw (vs := [_, _]) rfl rfl rfl inferInstance rfl rfl ?_
      refine JL.nil ?_
      refine J.ret ?_
      have hmag := MagAt.of (l := l.take m) hs4 (hv.2.take m)
      have hi := fun neg => IntAt.mk (neg := neg) hmag (by rw [ht, trim_eq hv.2, trim_limbs])
      have hvt : val (l.take m) = val l := by rw [ht, val_take_trim hv.2]
      simp only [hvt] at hi
      have hd : decide (0 < (m : Int)) = decide (l.take m ≠ []) := by
        refine decide_eq_decide.2 ⟨fun h1 h2 => ?_, fun h1 => ?_⟩
        · have := congrArg List.length h2; rw [List.length_take, List.length_nil] at this; omega
        · rcases Nat.eq_zero_or_pos m with h3 | h3
          · subst h3; simp at h1
          · omega
      refine ret_ok (fn := Try.f48) rfl (.agg rfl inferInstance inferInstance .nil) ?_
      first | exact hi false | (have := hi true; rw [Bool.true_and, ← hd] at this; exact this)
    ·
      refine J.region ?_
      first | refine o_q (q_mvv (v := .bool _) rfl) ?_ | refine o_q (q_mv) ?_
      first | refine o_q (q_mvv (v := .bool _) rfl) ?_ | refine o_q (q_mv) ?_
      refine JL.guardT rfl rfl rfl ?_
      first | refine o_q (q_mvv (v := .int _ _) rfl) ?_ | refine o_q (q_mv) ?_
      refine JL.guardT rfl rfl rfl ?_
      refine o_q (q_gtr rfl rfl) ?_
      first | refine o_q (q_pickTv (v := .bool _) rfl rfl rfl) ?_ | refine o_q (q_pickT rfl rfl) ?_
      refine o_bs [] (by decide) rfl (fun b25 => ?_)
      first | refine o_q (q_mvv (v := .slice _ _ _) rfl) ?_ | refine o_q (q_mv) ?_
      first | refine o_q (q_mvv (v := .int _ _) rfl) ?_ | refine o_q (q_mv) ?_
      refine o_q (q_slH rfl rfl (by omega)) ?_
      have hsl : MagAt h2 (.slice p m c) (l.take m) := (hv.take hm (Nat.le_trans hm hc)).mono
      refine o_app (Lb := [(b25, row 78 [])]) rfl rfl (OwnS.lit (xs := []) (n := 0) rfl) inferInstance (src_fro hsl.1 (u32s_plain _)) (by rw [List.length_take]; omega) (fun v4 L4 ho => ?_)
      obtain ⟨p4, c4, rfl⟩ := ho.out
      refine JL.fzS ho (fun h4 s4 hs4 => ?_)
      first | refine o_q (q_bd [.bool _, .slice _ _ _] rfl) ?_ | refine o_q (q_bd [_, _] rfl) ?_
      refine o_stw (vs := [_, _]) rfl rfl rfl inferInstance rfl rfl ?_
      refine JL.nil ?_
      refine J.ret ?_
      have hmag := MagAt.of (l := l.take m) hs4 (hv.2.take m)
      have hi := fun neg => IntAt.mk (neg := neg) hmag (by rw [ht, trim_eq hv.2, trim_limbs])
      have hvt : val (l.take m) = val l := by rw [ht, val_take_trim hv.2]
      simp only [hvt] at hi
      have hd : decide (0 < (m : Int)) = decide (l.take m ≠ []) := by
        refine decide_eq_decide.2 ⟨fun h1 h2 => ?_, fun h1 => ?_⟩
        · have := congrArg List.length h2; rw [List.length_take, List.length_nil] at this; omega
        · rcases Nat.eq_zero_or_pos m with h3 | h3
          · subst h3; simp at h1
          · omega
      refine ret_ok (fn := Try.f48) rfl (.agg rfl inferInstance inferInstance .nil) ?_
      first | exact hi false | (have := hi true; rw [Bool.true_and, ← hd] at this; exact this)
theorem of_fn {h : Heap} {n : Int} (hn : -9223372036854775808 ≤ n ∧ n ≤ 9223372036854775807) :
    Fn Try.prog 14 #[.int .i64 n] h fun r h' => IntAt h' r n := by
  refine Fn.intro (args := [_]) Try.func14 rfl rfl (Nat.le_of_ble_eq_true rfl) fun w => ?_
  refine J.seq ?_
  refine J.region ?_
  refine o_al (fun b2 => ?_)
  refine JL.nil ?_
  refine J.seq ?_
  refine J.region ?_
  first | refine o_q (q_mvv (v := .int _ _) rfl) ?_ | refine o_q (q_mv) ?_
  refine o_q (q_cv (c := n % 18446744073709551616) rfl (by rw [IntKind.wrap_u64])) ?_
  first | refine o_q (q_asv (v := .int _ _) rfl) ?_ | refine o_q (q_as) ?_
  refine JL.nil ?_
  -- cut: kept [0, 2], said [3]
  first | refine J.cutK (α := Unit) (fun _ h' L' => L' = [(b2, row 37 [.bool false, .slice none 0 0])]) [(0, .int _ _), (2, .pointer _)] ⟨rfl, rfl, trivial⟩ (fun _ => [(3, .int .u64 (n.natAbs : Int))]) ?_ ?_ | refine J.cutK (α := Unit) (fun _ h' L' => L' = [(b2, row 37 [.bool false, .slice none 0 0])]) [(0, _), (2, _)] ⟨rfl, rfl, trivial⟩ (fun _ => [(3, .int .u64 (n.natAbs : Int))]) ?_ ?_
  ·
    refine J.seq ?_
    refine J.region ?_
    first | refine o_q (q_mvv (v := .int _ _) rfl) ?_ | refine o_q (q_mv) ?_
    refine o_q (q_lss rfl rfl) ?_
    refine JL.nil ?_
    refine J.condD rfl (fun c0 => ?_) (fun c0 => ?_)
    ·
      refine J.region ?_
      first | refine o_q (q_mvv (v := .int _ _) rfl) ?_ | refine o_q (q_mv) ?_
      refine o_q (q_neg (c := -n) rfl (by rw [IntKind.wrap_u64]; omega)) ?_
      first | refine o_q (q_asv (v := .int _ _) rfl) ?_ | refine o_q (q_as) ?_
      refine JL.nil ?_
      exact ⟨(), rfl, ⟨rfl, rfl, trivial⟩, ⟨(by show Value.int _ _ = Value.int _ _; congr 1; omega), trivial⟩, rfl, inferInstance⟩
    ·
      refine J.skip ?_
      exact ⟨(), rfl, ⟨rfl, rfl, trivial⟩, ⟨(by show Value.int _ _ = Value.int _ _; congr 1; omega), trivial⟩, rfl, inferInstance⟩
  ·
    rintro _ σ1 h1 L1 s1 rfl
    refine J.seq ?_
    refine J.region ?_
    first | refine o_q (q_mvv (v := .int _ _) rfl) ?_ | refine o_q (q_mv) ?_
    refine o_q (q_cv (c := ((n.natAbs % 4294967296 : Nat) : Int)) rfl (by rw [IntKind.wrap_u32]; omega)) ?_
    first | refine o_q (q_mvv (v := .int _ _) rfl) ?_ | refine o_q (q_mv) ?_
    refine o_q (q_shr (c := ((n.natAbs / 4294967296 : Nat) : Int)) rfl rfl (by decide) (by simp only [IntKind.bits]; exact fd32 _)) ?_
    refine o_q (q_cv (c := ((n.natAbs / 4294967296 : Nat) : Int)) rfl (wu32 (by omega))) ?_
    first | refine o_bs [.int _ _, .int _ _] (by decide) rfl (fun b15 => ?_) | refine o_bs [_, _] (by decide) rfl (fun b15 => ?_)
    first | refine o_q (q_mvv (v := .int _ _) rfl) ?_ | refine o_q (q_mv) ?_
    refine o_q (q_lss rfl rfl) ?_
    refine JL.fz b15 (fun h2 s2 hb => ?_)
    have hl : Bd [n.natAbs % 4294967296, n.natAbs / 4294967296] := fun x hx => by
      have hB : Bs = 4294967296 := rfl
      simp at hx; omega
    refine o_call (made_fn (MagAt.froze (l := [n.natAbs % 4294967296, n.natAbs / 4294967296]) hb hl (Nat.le_refl _)) (by simp)) (fun r h3 s3 hr => ?_)
    obtain ⟨pr, cr, rfl, _, hm⟩ := hr.out
    refine o_stw (vs := [_, _]) rfl rfl rfl inferInstance rfl rfl ?_
    refine JL.nil ?_
    refine J.ret ?_
    refine ret_ok (fn := Try.f14) rfl (.agg rfl inferInstance inferInstance .nil) ?_
    have hz : (if decide (n < 0) = true then -(val [n.natAbs % 4294967296, n.natAbs / 4294967296] : Int) else (val [n.natAbs % 4294967296, n.natAbs / 4294967296] : Int)) = n := by
      have hv : val [n.natAbs % 4294967296, n.natAbs / 4294967296] = n.natAbs := by
        have hB : Bs = 4294967296 := rfl
        simp only [val, hB]; omega
      rw [hv]; by_cases h : n < 0 <;> simp [h] <;> omega
    rw [hz] at hm ⊢ <;> exact IntAt.in hm
theorem neg_fn {h : Heap} {v : Value} {z : Int} (hv : IntAt h v z) (hz : Fit z) :
    Fn Try.prog 19 #[v] h fun r h' => IntAt h' r (-z) := by
  obtain ⟨p, c, rfl, hc, hm⟩ := hv.out
  refine Fn.intro (args := [_]) Try.func19 rfl rfl (Nat.le_of_ble_eq_true rfl) fun w => ?_
  refine J.seq ?_
  refine J.region ?_
  first | refine o_bx (v := .agg _) rfl rfl (fun b1 => ?_) | refine o_bx rfl rfl (fun b1 => ?_)
  refine o_al (fun b2 => ?_)
  refine JL.nil ?_
  refine J.seq ?_
  refine J.region ?_
  refine o_q (q_fa rfl) ?_
  refine o_q (q_ld rfl inferInstance rfl) ?_
  refine o_q (q_fa rfl) ?_
  refine o_q (q_ld rfl inferInstance rfl) ?_
  refine o_q (q_not rfl) ?_
  refine o_call (made_fn hm (Nat.le_trans hz (by decide))) (fun r h1 s1 hr => ?_)
  rw [show (if (!decide (z < 0)) = true then -(val (limbs z.natAbs) : Int) else ↑(val (limbs z.natAbs))) = -z by rw [val_limbs]; by_cases h : z < 0 <;> simp [h] <;> omega] at hr
  obtain ⟨pr, cr, rfl, _, hm1⟩ := hr.out
  refine o_stw (vs := [_, _]) rfl rfl rfl inferInstance rfl rfl ?_
  refine JL.nil ?_
  refine J.ret ?_
  exact ret_ok (fn := Try.f19) rfl (.agg rfl inferInstance inferInstance .nil) (IntAt.in hm1)
theorem plusr_fn {h : Heap} {va vb : Value} {a b : List Nat} (ha : MagAt h va a) (hb : MagAt h vb b) (la : a.length ≤ 1000001) (lb : b.length ≤ 1000001) :
    Fn Try.prog 55 #[va, vb] h fun r h' => ∃ l, MagAt h' r l ∧ val l = val a + val b ∧ l.length ≤ max a.length b.length + 1 := by
  obtain ⟨pa, ca, rfl, hca⟩ := ha.out
  obtain ⟨pb, cb, rfl, hcb⟩ := hb.out
  refine Fn.intro (args := [_, _]) Try.func55 rfl rfl (Nat.le_of_ble_eq_true rfl) fun w => ?_
  refine J.seq ?_
  refine J.region ?_
  refine o_q (q_as) ?_
  refine JL.nil ?_
  refine J.seq ?_
  refine J.region ?_
  refine o_bs [] (by decide) rfl (fun b8 => ?_)
  first | refine o_q (q_asv (v := .slice _ _ _) rfl) ?_ | refine o_q (q_as) ?_
  refine o_q (q_as) ?_
  refine JL.nil ?_
  -- cut: kept [], said [5]
  first | refine J.cutK (α := List Nat × Value × Own) (fun ⟨xs, v, Lb⟩ h' L' => OwnS 78 1 v xs.length (u32s xs) Lb ∧ Lb = L' ∧ Bd xs ∧ xs.length ≤ max a.length b.length + 1 ∧ val xs = val a + val b) [] trivial (fun ⟨xs, v, Lb⟩ => [(5, v)]) ?_ ?_ | refine J.cutK (α := List Nat × Value × Own) (fun ⟨xs, v, Lb⟩ h' L' => OwnS 78 1 v xs.length (u32s xs) Lb ∧ Lb = L' ∧ Bd xs ∧ xs.length ≤ max a.length b.length + 1 ∧ val xs = val a + val b) [] trivial (fun ⟨xs, v, Lb⟩ => [(5, v)]) ?_ ?_
  ·
    refine J.seq ?_
    refine J.region ?_
    refine o_q (q_as) ?_
    refine JL.nil ?_
    refine J.block ?_
    -- loop 0: kept [0, 1], said [5, 6, 7]
    first | refine J.loopK (α := Nat × Nat × List Nat × Value × Own) (fun ⟨i, cy, xs, v, Lb⟩ h' L' => OwnS 78 1 v i (u32s xs) Lb ∧ Lb = L' ∧ Bd xs ∧ xs.length = i ∧ cy ≤ 1 ∧ (i ≤ max a.length b.length ∨ (cy = 0 ∧ i ≤ max a.length b.length + 1)) ∧ val xs + Bs ^ i * cy = val (a.take i) + val (b.take i)) [(0, .slice _ _ _), (1, .slice _ _ _)] ⟨rfl, rfl, trivial⟩ (fun ⟨i, cy, xs, v, Lb⟩ => [(5, v), (6, .int .u64 (cy : Int)), (7, .int .i64 (i : Int))]) (fun ⟨i, cy, xs, v, Lb⟩ => max a.length b.length + 1 - i) ((0, 0, [], .slice (some ⟨b8, 0, none⟩) 0 0, [(b8, row 78 [])])) ⟨OwnS.lit (xs := []) (n := 0) rfl, rfl, Bd.nil, rfl, by omega, .inl (by omega), by simp [val]⟩ ⟨rfl, rfl, rfl, trivial⟩ ?_ | refine J.loopK (α := Nat × Nat × List Nat × Value × Own) (fun ⟨i, cy, xs, v, Lb⟩ h' L' => OwnS 78 1 v i (u32s xs) Lb ∧ Lb = L' ∧ Bd xs ∧ xs.length = i ∧ cy ≤ 1 ∧ (i ≤ max a.length b.length ∨ (cy = 0 ∧ i ≤ max a.length b.length + 1)) ∧ val xs + Bs ^ i * cy = val (a.take i) + val (b.take i)) [(0, _), (1, _)] ⟨rfl, rfl, trivial⟩ (fun ⟨i, cy, xs, v, Lb⟩ => [(5, v), (6, .int .u64 (cy : Int)), (7, .int .i64 (i : Int))]) (fun ⟨i, cy, xs, v, Lb⟩ => max a.length b.length + 1 - i) ((0, 0, [], .slice (some ⟨b8, 0, none⟩) 0 0, [(b8, row 78 [])])) ⟨OwnS.lit (xs := []) (n := 0) rfl, rfl, Bd.nil, rfl, by omega, .inl (by omega), by simp [val]⟩ ⟨rfl, rfl, rfl, trivial⟩ ?_
    rintro ⟨i, cy, xs, v, Lb⟩ σ h1 L1 s1 ⟨ho, rfl, hxb, hxl, hcr, hi, hv⟩
    -- cut: kept [0, 1, 5, 6, 7], said []
    first | refine J.cutK (α := Unit) (fun _ h' L' => (i < a.length ∨ i < b.length ∨ 0 < cy) ∧ Lb = L') [(0, .slice _ _ _), (1, .slice _ _ _), (5, .slice _ _ _), (6, .int _ _), (7, .int _ _)] ⟨rfl, rfl, rfl, rfl, rfl, trivial⟩ (fun _ => []) ?_ ?_ | refine J.cutK (α := Unit) (fun _ h' L' => (i < a.length ∨ i < b.length ∨ 0 < cy) ∧ Lb = L') [(0, _), (1, _), (5, _), (6, _), (7, _)] ⟨rfl, rfl, rfl, rfl, rfl, trivial⟩ (fun _ => []) ?_ ?_
    ·
      refine J.seq ?_
      rcases Nat.lt_or_ge i a.length with c1 | c1
      rotate_left
      rcases Nat.lt_or_ge i b.length with c2 | c2
      rotate_left
      rcases Nat.eq_zero_or_pos cy with c3 | c3
      ·
        refine J.region ?_
        first | refine o_q (q_mvv (v := .int _ _) rfl) ?_ | refine o_q (q_mv) ?_
        first | refine o_q (q_mvv (v := .slice _ _ _) rfl) ?_ | refine o_q (q_mv) ?_
        refine o_q (q_len rfl) ?_
        refine o_q (q_lss rfl rfl) ?_
        first | refine o_q (q_mvv (v := .bool _) rfl) ?_ | refine o_q (q_mv) ?_
        refine JL.guardT rfl rfl (decide_eq_false (by omega)) ?_
        first | refine o_q (q_mvv (v := .int _ _) rfl) ?_ | refine o_q (q_mv) ?_
        refine JL.guardT rfl rfl (decide_eq_false (by omega)) ?_
        first | refine o_q (q_mvv (v := .slice _ _ _) rfl) ?_ | refine o_q (q_mv) ?_
        refine JL.guardT rfl rfl (decide_eq_false (by omega)) ?_
        refine o_q (q_len rfl) ?_
        refine JL.guardT rfl rfl (decide_eq_false (by omega)) ?_
        refine o_q (q_lss rfl rfl) ?_
        first | refine o_q (q_pickFv (v := .bool _) rfl (decide_eq_false (by omega)) rfl) ?_ | refine o_q (q_pickF rfl (decide_eq_false (by omega))) ?_
        first | refine o_q (q_mvv (v := .bool _) rfl) ?_ | refine o_q (q_mv) ?_
        refine JL.guardT rfl rfl (decide_eq_false (by omega)) ?_
        first | refine o_q (q_mvv (v := .int _ _) rfl) ?_ | refine o_q (q_mv) ?_
        refine JL.guardT rfl rfl (decide_eq_false (by omega)) ?_
        refine o_q (q_gtr rfl rfl) ?_
        first | refine o_q (q_pickFv (v := .bool _) rfl (decide_eq_false (by omega)) rfl) ?_ | refine o_q (q_pickF rfl (decide_eq_false (by omega))) ?_
        refine JL.nil ?_
        refine J.condF rfl (decide_eq_false (by omega)) ?_
        refine J.exit ?_
        exact ⟨(xs, v, _), rfl, trivial, ⟨rfl, trivial⟩, ⟨hxl ▸ ho, rfl, hxb, by omega, (by
          have h1 : cy = 0 := by omega
          rw [h1, List.take_of_length_le (by omega), List.take_of_length_le (by omega)] at hv; omega)⟩, inferInstance⟩
      ·
        refine J.region ?_
        first | refine o_q (q_mvv (v := .int _ _) rfl) ?_ | refine o_q (q_mv) ?_
        first | refine o_q (q_mvv (v := .slice _ _ _) rfl) ?_ | refine o_q (q_mv) ?_
        refine o_q (q_len rfl) ?_
        refine o_q (q_lss rfl rfl) ?_
        first | refine o_q (q_mvv (v := .bool _) rfl) ?_ | refine o_q (q_mv) ?_
        refine JL.guardT rfl rfl (decide_eq_false (by omega)) ?_
        first | refine o_q (q_mvv (v := .int _ _) rfl) ?_ | refine o_q (q_mv) ?_
        refine JL.guardT rfl rfl (decide_eq_false (by omega)) ?_
        first | refine o_q (q_mvv (v := .slice _ _ _) rfl) ?_ | refine o_q (q_mv) ?_
        refine JL.guardT rfl rfl (decide_eq_false (by omega)) ?_
        refine o_q (q_len rfl) ?_
        refine JL.guardT rfl rfl (decide_eq_false (by omega)) ?_
        refine o_q (q_lss rfl rfl) ?_
        first | refine o_q (q_pickFv (v := .bool _) rfl (decide_eq_false (by omega)) rfl) ?_ | refine o_q (q_pickF rfl (decide_eq_false (by omega))) ?_
        first | refine o_q (q_mvv (v := .bool _) rfl) ?_ | refine o_q (q_mv) ?_
        refine JL.guardT rfl rfl (decide_eq_false (by omega)) ?_
        first | refine o_q (q_mvv (v := .int _ _) rfl) ?_ | refine o_q (q_mv) ?_
        refine JL.guardT rfl rfl (decide_eq_false (by omega)) ?_
        refine o_q (q_gtr rfl rfl) ?_
        first | refine o_q (q_pickFv (v := .bool _) rfl (decide_eq_false (by omega)) rfl) ?_ | refine o_q (q_pickF rfl (decide_eq_false (by omega))) ?_
        refine JL.nil ?_
        refine J.condT rfl (decide_eq_true (by omega)) ?_
        refine J.skip ?_
        exact ⟨(), rfl, ⟨rfl, rfl, rfl, rfl, rfl, trivial⟩, trivial, ⟨by omega, rfl⟩, inferInstance⟩
      ·
        refine J.region ?_
        first | refine o_q (q_mvv (v := .int _ _) rfl) ?_ | refine o_q (q_mv) ?_
        first | refine o_q (q_mvv (v := .slice _ _ _) rfl) ?_ | refine o_q (q_mv) ?_
        refine o_q (q_len rfl) ?_
        refine o_q (q_lss rfl rfl) ?_
        first | refine o_q (q_mvv (v := .bool _) rfl) ?_ | refine o_q (q_mv) ?_
        refine JL.guardF rfl rfl (decide_eq_true (by omega)) rfl ?_
        refine JL.guardF rfl rfl (decide_eq_true (by omega)) rfl ?_
        refine JL.guardF rfl rfl (decide_eq_true (by omega)) rfl ?_
        refine JL.guardF rfl rfl (decide_eq_true (by omega)) rfl ?_
        refine o_q (q_pickT rfl (decide_eq_true (by omega))) ?_
        first | refine o_q (q_mvv (v := .bool _) rfl) ?_ | refine o_q (q_mv) ?_
        refine JL.guardF rfl rfl rfl rfl ?_
        refine JL.guardF rfl rfl rfl rfl ?_
        refine o_q (q_pickT rfl rfl) ?_
        refine JL.nil ?_
        refine J.condT rfl rfl ?_
        refine J.skip ?_
        exact ⟨(), rfl, ⟨rfl, rfl, rfl, rfl, rfl, trivial⟩, trivial, ⟨by omega, rfl⟩, inferInstance⟩
      ·
        refine J.region ?_
        first | refine o_q (q_mvv (v := .int _ _) rfl) ?_ | refine o_q (q_mv) ?_
        first | refine o_q (q_mvv (v := .slice _ _ _) rfl) ?_ | refine o_q (q_mv) ?_
        refine o_q (q_len rfl) ?_
        refine o_q (q_lss rfl rfl) ?_
        first | refine o_q (q_mvv (v := .bool _) rfl) ?_ | refine o_q (q_mv) ?_
        refine JL.guardT rfl rfl (decide_eq_false (by omega)) ?_
        first | refine o_q (q_mvv (v := .int _ _) rfl) ?_ | refine o_q (q_mv) ?_
        refine JL.guardT rfl rfl (decide_eq_false (by omega)) ?_
        first | refine o_q (q_mvv (v := .slice _ _ _) rfl) ?_ | refine o_q (q_mv) ?_
        refine JL.guardT rfl rfl (decide_eq_false (by omega)) ?_
        refine o_q (q_len rfl) ?_
        refine JL.guardT rfl rfl (decide_eq_false (by omega)) ?_
        refine o_q (q_lss rfl rfl) ?_
        first | refine o_q (q_pickFv (v := .bool _) rfl (decide_eq_false (by omega)) rfl) ?_ | refine o_q (q_pickF rfl (decide_eq_false (by omega))) ?_
        first | refine o_q (q_mvv (v := .bool _) rfl) ?_ | refine o_q (q_mv) ?_
        refine JL.guardF rfl rfl (decide_eq_true (by omega)) rfl ?_
        refine JL.guardF rfl rfl (decide_eq_true (by omega)) rfl ?_
        refine o_q (q_pickT rfl (decide_eq_true (by omega))) ?_
        refine JL.nil ?_
        refine J.condT rfl rfl ?_
        refine J.skip ?_
        exact ⟨(), rfl, ⟨rfl, rfl, rfl, rfl, rfl, trivial⟩, trivial, ⟨by omega, rfl⟩, inferInstance⟩
    ·
      rintro _ σ2 h2 L2 s2 ⟨hgo, rfl⟩
      refine J.seq ?_
      refine J.block ?_
      -- cut: kept [0, 1, 5, 7], said [6]
      first | refine J.cutK (α := Unit) (fun _ h' L' => a.getD i 0 < 4294967296 ∧ Lb = L') [(0, .slice _ _ _), (1, .slice _ _ _), (5, .slice _ _ _), (7, .int _ _)] ⟨rfl, rfl, rfl, rfl, trivial⟩ (fun _ => [(6, .int .u64 ((cy + a.getD i 0 : Nat) : Int))]) ?_ ?_ | refine J.cutK (α := Unit) (fun _ h' L' => a.getD i 0 < 4294967296 ∧ Lb = L') [(0, _), (1, _), (5, _), (7, _)] ⟨rfl, rfl, rfl, rfl, trivial⟩ (fun _ => [(6, .int .u64 ((cy + a.getD i 0 : Nat) : Int))]) ?_ ?_
      ·
        refine J.seq ?_
        refine J.region ?_
        first | refine o_q (q_mvv (v := .int _ _) rfl) ?_ | refine o_q (q_mv) ?_
        first | refine o_q (q_mvv (v := .slice _ _ _) rfl) ?_ | refine o_q (q_mv) ?_
        refine o_q (q_len rfl) ?_
        refine o_q (q_lss rfl rfl) ?_
        refine JL.nil ?_
        refine J.condD rfl (fun c1 => ?_) (fun c1 => ?_)
        ·
          refine J.region ?_
          first | refine o_q (q_mvv (v := .int _ _) rfl) ?_ | refine o_q (q_mv) ?_
          first | refine o_q (q_mvv (v := .slice _ _ _) rfl) ?_ | refine o_q (q_mv) ?_
          first | refine o_q (q_mvv (v := .int _ _) rfl) ?_ | refine o_q (q_mv) ?_
          obtain ⟨kx, ox, x, rfl, hx, lx, hcx⟩ := MagAt.limb (j := i) ha (by omega)
          have gx := getD_some hx
          refine o_q (q_ia rfl rfl (by omega)) ?_
          refine o_q (q_ldf rfl hcx) ?_
          refine o_q (q_cv (c := (x : Int)) rfl (wu64 (by omega))) ?_
          refine o_q (q_add (c := ((cy + x : Nat) : Int)) rfl rfl (by rw [wu64 (by omega)]; omega)) ?_
          first | refine o_q (q_asv (v := .int _ _) rfl) ?_ | refine o_q (q_as) ?_
          refine JL.nil ?_
          exact ⟨(), rfl, ⟨rfl, rfl, rfl, rfl, trivial⟩, ⟨(by rw [gx] <;> rfl), trivial⟩, ⟨by omega, rfl⟩, inferInstance⟩
        ·
          have gx := getD_none (l := a) (i := i) (by omega)
          refine J.skip ?_
          exact ⟨(), rfl, ⟨rfl, rfl, rfl, rfl, trivial⟩, ⟨(by rw [gx] <;> rfl), trivial⟩, ⟨by omega, rfl⟩, inferInstance⟩
      ·
        rintro _ σ5 h5 L5 s5 ⟨xl, rfl⟩
        -- cut: kept [0, 1, 5, 7], said [6]
        first | refine J.cutK (α := Unit) (fun _ h' L' => b.getD i 0 < 4294967296 ∧ Lb = L') [(0, .slice _ _ _), (1, .slice _ _ _), (5, .slice _ _ _), (7, .int _ _)] ⟨rfl, rfl, rfl, rfl, trivial⟩ (fun _ => [(6, .int .u64 ((cy + a.getD i 0 + b.getD i 0 : Nat) : Int))]) ?_ ?_ | refine J.cutK (α := Unit) (fun _ h' L' => b.getD i 0 < 4294967296 ∧ Lb = L') [(0, _), (1, _), (5, _), (7, _)] ⟨rfl, rfl, rfl, rfl, trivial⟩ (fun _ => [(6, .int .u64 ((cy + a.getD i 0 + b.getD i 0 : Nat) : Int))]) ?_ ?_
        ·
          refine J.seq ?_
          refine J.region ?_
          first | refine o_q (q_mvv (v := .int _ _) rfl) ?_ | refine o_q (q_mv) ?_
          first | refine o_q (q_mvv (v := .slice _ _ _) rfl) ?_ | refine o_q (q_mv) ?_
          refine o_q (q_len rfl) ?_
          refine o_q (q_lss rfl rfl) ?_
          refine JL.nil ?_
          refine J.condD rfl (fun c2 => ?_) (fun c2 => ?_)
          ·
            refine J.region ?_
            first | refine o_q (q_mvv (v := .int _ _) rfl) ?_ | refine o_q (q_mv) ?_
            first | refine o_q (q_mvv (v := .slice _ _ _) rfl) ?_ | refine o_q (q_mv) ?_
            first | refine o_q (q_mvv (v := .int _ _) rfl) ?_ | refine o_q (q_mv) ?_
            obtain ⟨ky, oy, y, rfl, hy, ly, hcy⟩ := MagAt.limb (j := i) hb (by omega)
            have gy := getD_some hy
            refine o_q (q_ia rfl rfl (by omega)) ?_
            refine o_q (q_ldf rfl hcy) ?_
            refine o_q (q_cv (c := (y : Int)) rfl (wu64 (by omega))) ?_
            refine o_q (q_add (c := ((cy + a.getD i 0 + y : Nat) : Int)) rfl rfl (by rw [wu64 (by omega)]; omega)) ?_
            first | refine o_q (q_asv (v := .int _ _) rfl) ?_ | refine o_q (q_as) ?_
            refine JL.nil ?_
            exact ⟨(), rfl, ⟨rfl, rfl, rfl, rfl, trivial⟩, ⟨(by rw [gy] <;> rfl), trivial⟩, ⟨by omega, rfl⟩, inferInstance⟩
          ·
            have gy := getD_none (l := b) (i := i) (by omega)
            refine J.skip ?_
            exact ⟨(), rfl, ⟨rfl, rfl, rfl, rfl, trivial⟩, ⟨(by rw [gy] <;> rfl), trivial⟩, ⟨by omega, rfl⟩, inferInstance⟩
        ·
          rintro _ σ6 h6 L6 s6 ⟨yl, rfl⟩
          refine J.seq ?_
          refine J.region ?_
          first | refine o_q (q_mvv (v := .slice _ _ _) rfl) ?_ | refine o_q (q_mv) ?_
          first | refine o_q (q_mvv (v := .int _ _) rfl) ?_ | refine o_q (q_mv) ?_
          refine o_q (q_cv (c := (((cy + a.getD i 0 + b.getD i 0) % 4294967296 : Nat) : Int)) rfl (by rw [IntKind.wrap_u32]; omega)) ?_
          first | refine o_bs [.int _ _] (by decide) rfl (fun b50 => ?_) | refine o_bs [_] (by decide) rfl (fun b50 => ?_)
          refine o_app (us := [.int .u32 (((cy + a.getD i 0 + b.getD i 0) % 4294967296 : Nat) : Int)]) (m := 1) rfl rfl ho inferInstance (src_own inferInstance (LookN.all _) rfl (by simp [plain])) (by omega) (fun v7 L7 ho7 => ?_)
          first | refine o_q (q_asv (v := .slice _ _ _) rfl) ?_ | refine o_q (q_as) ?_
          refine JL.nil ?_
          refine J.drop ?_
          refine J.region ?_
          first | refine o_q (q_mvv (v := .int _ _) rfl) ?_ | refine o_q (q_mv) ?_
          refine o_q (q_quo (c := (((cy + a.getD i 0 + b.getD i 0) / 4294967296 : Nat) : Int)) rfl rfl (by decide) (by rw [td32, wu64 (by omega)])) ?_
          first | refine o_q (q_asv (v := .int _ _) rfl) ?_ | refine o_q (q_as) ?_
          refine JL.nil ?_
          refine J.region ?_
          first | refine o_q (q_mvv (v := .int _ _) rfl) ?_ | refine o_q (q_mv) ?_
          refine o_q (q_add (c := ((i + 1 : Nat) : Int)) rfl rfl (by rw [wi64 (by omega)]; omega)) ?_
          first | refine o_q (q_asv (v := .int _ _) rfl) ?_ | refine o_q (q_as) ?_
          refine JL.nil ?_
          exact ⟨(i + 1, (cy + a.getD i 0 + b.getD i 0) / 4294967296, xs ++ [(cy + a.getD i 0 + b.getD i 0) % 4294967296], v7, L7), rfl, ⟨rfl, rfl, trivial⟩, ⟨rfl, rfl, rfl, trivial⟩, ⟨by rw [u32s_append]; exact ho7, rfl, hxb.snoc (Nat.mod_lt _ (by decide)), by simp [hxl], by omega, by
            have e1 : a.length ≤ i → a.getD i 0 = 0 := getD_none
            have e2 : b.length ≤ i → b.getD i 0 = 0 := getD_none
            omega, plus_step hxl hv⟩, by show max a.length b.length + 1 - (i + 1) < max a.length b.length + 1 - i; omega, inferInstance⟩
  ·
    rintro ⟨xs, v, Lb⟩ σ4 h4 L4 s4 ⟨ho, rfl, hxb, hxl, hv⟩
    refine J.seq ?_
    refine J.fzS ho (fun h5 s5 hs5 => ?_)
    refine J.region ?_
    first | refine o_q (q_mvv (v := .slice _ _ _) rfl) ?_ | refine o_q (q_mv) ?_
    first | refine o_q (q_asv (v := .slice _ _ _) rfl) ?_ | refine o_q (q_as) ?_
    refine JL.nil ?_
    refine J.ret ?_
    exact ret_ok (fn := Try.f55) rfl (.tmp rfl .nil) ⟨xs, MagAt.of hs5 hxb, hv, hxl⟩
theorem less_fn {h : Heap} {va vb : Value} {x y : Nat} (ha : MagAt h va (limbs x)) (hb : MagAt h vb (limbs y)) (la : (limbs x).length ≤ 1000001) (lb : (limbs y).length ≤ 1000001) :
    Fn Try.prog 56 #[va, vb] h fun r _ => r = .bool (decide (x < y)) := by
  obtain ⟨pa, ca, rfl, hca⟩ := ha.out
  obtain ⟨pb, cb, rfl, hcb⟩ := hb.out
  refine Fn.intro (args := [_, _]) Try.func56 rfl rfl (Nat.le_of_ble_eq_true rfl) fun w => ?_
  refine J.seq ?_
  refine J.region ?_
  refine o_q (q_as) ?_
  refine JL.nil ?_
  refine J.seq ?_
  refine J.seq ?_
  refine J.region ?_
  first | refine o_q (q_mvv (v := .slice _ _ _) rfl) ?_ | refine o_q (q_mv) ?_
  refine o_q (q_len rfl) ?_
  first | refine o_q (q_mvv (v := .slice _ _ _) rfl) ?_ | refine o_q (q_mv) ?_
  refine o_q (q_len rfl) ?_
  refine o_q (q_neq rfl rfl) ?_
  refine JL.nil ?_
  refine J.condD rfl (fun c0 => ?_) (fun c0 => ?_)
  ·
    refine J.seq ?_
    refine J.region ?_
    first | refine o_q (q_mvv (v := .slice _ _ _) rfl) ?_ | refine o_q (q_mv) ?_
    refine o_q (q_len rfl) ?_
    first | refine o_q (q_mvv (v := .slice _ _ _) rfl) ?_ | refine o_q (q_mv) ?_
    refine o_q (q_len rfl) ?_
    refine o_q (q_lss rfl rfl) ?_
    first | refine o_q (q_asv (v := .bool _) rfl) ?_ | refine o_q (q_as) ?_
    refine JL.nil ?_
    refine J.ret ?_
    refine ret_ok (fn := Try.f56) rfl (.tmp rfl .nil) ?_
    refine congrArg Value.bool (decide_eq_decide.2 ⟨fun h1 => limbs_len_lt (by omega), fun h1 => ?_⟩)
    rcases Nat.lt_or_ge (limbs y).length (limbs x).length with h2 | h2
    · have := limbs_len_lt h2; omega
    · omega
  ·
    have heq : (limbs x).length = (limbs y).length := by omega
    refine J.skip ?_
    -- cut: kept [], said []
    first | refine J.cutK (α := Unit) (fun _ h' L' => x = y ∧ [] = L') [] trivial (fun _ => []) ?_ ?_ | refine J.cutK (α := Unit) (fun _ h' L' => x = y ∧ [] = L') [] trivial (fun _ => []) ?_ ?_
    ·
      refine J.seq ?_
      refine J.region ?_
      first | refine o_q (q_mvv (v := .slice _ _ _) rfl) ?_ | refine o_q (q_mv) ?_
      refine o_q (q_len rfl) ?_
      refine o_q (q_sub (c := ((limbs x).length : Int) - 1) rfl rfl (wi64 (by omega))) ?_
      first | refine o_q (q_asv (v := .int _ _) rfl) ?_ | refine o_q (q_as) ?_
      refine JL.nil ?_
      refine J.block ?_
      -- loop 0: kept [0, 1], said [5]
      first | refine J.loopK (α := Int) (fun i h' L' => -1 ≤ i ∧ i < ((limbs x).length : Int) ∧ (limbs x).drop (i + 1).toNat = (limbs y).drop (i + 1).toNat ∧ [] = L') [(0, .slice _ _ _), (1, .slice _ _ _)] ⟨rfl, rfl, trivial⟩ (fun i => [(5, .int .i64 i)]) (fun i => (i + 1).toNat) (((limbs x).length : Int) - 1) ⟨by omega, by omega, by rw [show (((limbs x).length : Int) - 1 + 1).toNat = (limbs x).length by omega, List.drop_length, heq, List.drop_length], rfl⟩ ⟨rfl, trivial⟩ ?_ | refine J.loopK (α := Int) (fun i h' L' => -1 ≤ i ∧ i < ((limbs x).length : Int) ∧ (limbs x).drop (i + 1).toNat = (limbs y).drop (i + 1).toNat ∧ [] = L') [(0, _), (1, _)] ⟨rfl, rfl, trivial⟩ (fun i => [(5, .int .i64 i)]) (fun i => (i + 1).toNat) (((limbs x).length : Int) - 1) ⟨by omega, by omega, by rw [show (((limbs x).length : Int) - 1 + 1).toNat = (limbs x).length by omega, List.drop_length, heq, List.drop_length], rfl⟩ ⟨rfl, trivial⟩ ?_
      rintro i σ h1 L1 s1 ⟨hi0, hi1, hd, rfl⟩
      refine J.seq ?_
      refine J.seq ?_
      refine J.region ?_
      first | refine o_q (q_mvv (v := .int _ _) rfl) ?_ | refine o_q (q_mv) ?_
      refine o_q (q_geq rfl rfl) ?_
      refine JL.nil ?_
      refine J.condD rfl (fun c1 => ?_) (fun c1 => ?_)
      ·
        obtain ⟨j, rfl⟩ := Int.eq_ofNat_of_zero_le c1
        rw [show ((j : Int) + 1).toNat = j + 1 by omega] at hd
        refine J.skip ?_
        refine J.seq ?_
        refine J.block ?_
        refine J.seq ?_
        refine J.drawA [] ?_
        first | refine JD.calc 0 (by kernel_rfl) rfl trivial ss_sub (q_mvv (v := .slice _ _ _) rfl) ?_ | refine JD.calc 0 (by kernel_rfl) rfl trivial ss_sub (q_mv) ?_
        first | refine JD.calc 1 (by kernel_rfl) rfl trivial ss_sub (q_mvv (v := .int _ _) rfl) ?_ | refine JD.calc 1 (by kernel_rfl) rfl trivial ss_sub (q_mv) ?_
        obtain ⟨ku, ou, u, rfl, hu, lu, hcu⟩ := MagAt.limb (j := j) ha (by omega)
        refine JD.calc 2 (by kernel_rfl) rfl trivial ss_sub (q_ia rfl rfl (by omega)) ?_
        refine JD.load 3 (by kernel_rfl) rfl trivial (q_ldf rfl hcu) ?_
        first | refine JD.calc 4 (by kernel_rfl) rfl trivial ss_sub (q_mvv (v := .slice _ _ _) rfl) ?_ | refine JD.calc 4 (by kernel_rfl) rfl trivial ss_sub (q_mv) ?_
        first | refine JD.calc 5 (by kernel_rfl) rfl trivial ss_sub (q_mvv (v := .int _ _) rfl) ?_ | refine JD.calc 5 (by kernel_rfl) rfl trivial ss_sub (q_mv) ?_
        obtain ⟨kw, ow, w, rfl, hw, lw, hcw⟩ := MagAt.limb (j := j) hb (by omega)
        refine JD.calc 6 (by kernel_rfl) rfl trivial ss_sub (q_ia rfl rfl (by omega)) ?_
        refine JD.load 7 (by kernel_rfl) rfl trivial (q_ldf rfl hcw) ?_
        refine JD.calc 8 (by kernel_rfl) rfl trivial ss_sub (q_neq rfl rfl) ?_
        refine JD.done (by kernel_rfl) ?_ _
        refine J.condD rfl (fun c2 => ?_) (fun c2 => ?_)
        ·
          refine J.seq ?_
          refine J.drawA [] ?_
          first | refine JD.calc 0 (by kernel_rfl) rfl trivial ss_sub (q_mvv (v := .slice _ _ _) rfl) ?_ | refine JD.calc 0 (by kernel_rfl) rfl trivial ss_sub (q_mv) ?_
          first | refine JD.calc 1 (by kernel_rfl) rfl trivial ss_sub (q_mvv (v := .int _ _) rfl) ?_ | refine JD.calc 1 (by kernel_rfl) rfl trivial ss_sub (q_mv) ?_
          refine JD.calc 2 (by kernel_rfl) rfl trivial ss_sub (q_ia rfl rfl (by omega)) ?_
          refine JD.load 3 (by kernel_rfl) rfl trivial (q_ldf rfl hcu) ?_
          first | refine JD.calc 4 (by kernel_rfl) rfl trivial ss_sub (q_mvv (v := .slice _ _ _) rfl) ?_ | refine JD.calc 4 (by kernel_rfl) rfl trivial ss_sub (q_mv) ?_
          first | refine JD.calc 5 (by kernel_rfl) rfl trivial ss_sub (q_mvv (v := .int _ _) rfl) ?_ | refine JD.calc 5 (by kernel_rfl) rfl trivial ss_sub (q_mv) ?_
          refine JD.calc 6 (by kernel_rfl) rfl trivial ss_sub (q_ia rfl rfl (by omega)) ?_
          refine JD.load 7 (by kernel_rfl) rfl trivial (q_ldf rfl hcw) ?_
          refine JD.calc 8 (by kernel_rfl) rfl trivial ss_sub (q_lss rfl rfl) ?_
          first | refine JD.calc 9 (by kernel_rfl) rfl trivial ss_sub (q_asv (v := .bool _) rfl) ?_ | refine JD.calc 9 (by kernel_rfl) rfl trivial ss_sub (q_as) ?_
          refine JD.done (by kernel_rfl) ?_ _
          refine J.ret ?_
          refine ret_ok (fn := Try.f56) rfl (.tmp rfl .nil) ?_
          refine congrArg Value.bool (decide_eq_decide.2 ?_)
          have e1 := fun h => val_lt_of (bd_limbs x) (bd_limbs y) hd hu hw h
          have e2 := fun h => val_lt_of (bd_limbs y) (bd_limbs x) hd.symm hw hu h
          rw [val_limbs, val_limbs] at e1 e2
          exact ⟨fun h1 => e1 (by omega), fun h1 => by
            rcases Nat.lt_or_ge u w with h2 | h2
            · omega
            · have := e2 (by omega); omega⟩
        ·
          refine J.skip ?_
          refine J.region ?_
          first | refine o_q (q_mvv (v := .int _ _) rfl) ?_ | refine o_q (q_mv) ?_
          refine o_q (q_sub (c := (j : Int) - 1) rfl rfl (wi64 (by omega))) ?_
          first | refine o_q (q_asv (v := .int _ _) rfl) ?_ | refine o_q (q_as) ?_
          refine JL.nil ?_
          exact ⟨(j : Int) - 1, rfl, ⟨rfl, rfl, trivial⟩, ⟨rfl, trivial⟩, ⟨by omega, by omega, by
            rw [show ((j : Int) - 1 + 1).toNat = j by omega, List.drop_eq_getElem_cons (l := limbs x) (i := j) (by omega), List.drop_eq_getElem_cons (l := limbs y) (i := j) (by omega), hd]
            obtain ⟨_, e1⟩ := List.getElem?_eq_some_iff.1 hu
            obtain ⟨_, e2⟩ := List.getElem?_eq_some_iff.1 hw
            rw [e1, e2, show u = w by omega], rfl⟩, by omega, inferInstance⟩
      ·
        refine J.exit ?_
        exact ⟨(), rfl, trivial, trivial, ⟨limbs_inj (by simpa [show (i + 1).toNat = 0 by omega] using hd), rfl⟩, inferInstance⟩
    ·
      rintro _ σ3 h3 L3 s3 ⟨rfl, rfl⟩
      refine J.seq ?_
      refine J.region ?_
      refine o_q (q_as) ?_
      refine JL.nil ?_
      refine J.ret ?_
      exact ret_ok (fn := Try.f56) rfl (.tmp rfl .nil) (congrArg Value.bool (decide_eq_false (by omega)).symm)
theorem minusr_fn {h : Heap} {va vb : Value} {a b : List Nat} (ha : MagAt h va a) (hb : MagAt h vb b) (la : a.length ≤ 1000001) (lb : b.length ≤ 1000001) (hlen : b.length ≤ a.length) (hba : val b ≤ val a) :
    Fn Try.prog 57 #[va, vb] h fun r h' => ∃ l, MagAt h' r l ∧ val l = val a - val b ∧ l.length = a.length := by
  obtain ⟨pa, ca, rfl, hca⟩ := ha.out
  obtain ⟨pb, cb, rfl, hcb⟩ := hb.out
  refine Fn.intro (args := [_, _]) Try.func57 rfl rfl (Nat.le_of_ble_eq_true rfl) fun w => ?_
  refine J.seq ?_
  refine J.region ?_
  refine o_q (q_as) ?_
  refine JL.nil ?_
  refine J.seq ?_
  refine J.region ?_
  refine o_bs [] (by decide) rfl (fun b9 => ?_)
  first | refine o_q (q_asv (v := .slice _ _ _) rfl) ?_ | refine o_q (q_as) ?_
  refine o_q (q_as) ?_
  refine JL.nil ?_
  -- cut: kept [], said [5]
  first | refine J.cutK (α := List Nat × Value × Own) (fun ⟨xs, v, Lb⟩ h' L' => OwnS 78 1 v xs.length (u32s xs) Lb ∧ Lb = L' ∧ Bd xs ∧ xs.length = a.length ∧ val xs = val a - val b) [] trivial (fun ⟨xs, v, Lb⟩ => [(5, v)]) ?_ ?_ | refine J.cutK (α := List Nat × Value × Own) (fun ⟨xs, v, Lb⟩ h' L' => OwnS 78 1 v xs.length (u32s xs) Lb ∧ Lb = L' ∧ Bd xs ∧ xs.length = a.length ∧ val xs = val a - val b) [] trivial (fun ⟨xs, v, Lb⟩ => [(5, v)]) ?_ ?_
  ·
    refine J.seq ?_
    refine J.region ?_
    refine o_q (q_as) ?_
    refine JL.nil ?_
    refine J.block ?_
    -- loop 0: kept [0, 1], said [5, 6, 7]
    first | refine J.loopK (α := Nat × Nat × List Nat × Value × Own) (fun ⟨i, bw, xs, v, Lb⟩ h' L' => OwnS 78 1 v i (u32s xs) Lb ∧ Lb = L' ∧ Bd xs ∧ xs.length = i ∧ bw ≤ 1 ∧ i ≤ a.length ∧ val xs + val (b.take i) = val (a.take i) + Bs ^ i * bw) [(0, .slice _ _ _), (1, .slice _ _ _)] ⟨rfl, rfl, trivial⟩ (fun ⟨i, bw, xs, v, Lb⟩ => [(5, v), (6, .int .i64 (bw : Int)), (7, .int .i64 (i : Int))]) (fun ⟨i, bw, xs, v, Lb⟩ => a.length - i) ((0, 0, [], .slice (some ⟨b9, 0, none⟩) 0 0, [(b9, row 78 [])])) ⟨OwnS.lit (xs := []) (n := 0) rfl, rfl, Bd.nil, rfl, by omega, by omega, by simp [val]⟩ ⟨rfl, rfl, rfl, trivial⟩ ?_ | refine J.loopK (α := Nat × Nat × List Nat × Value × Own) (fun ⟨i, bw, xs, v, Lb⟩ h' L' => OwnS 78 1 v i (u32s xs) Lb ∧ Lb = L' ∧ Bd xs ∧ xs.length = i ∧ bw ≤ 1 ∧ i ≤ a.length ∧ val xs + val (b.take i) = val (a.take i) + Bs ^ i * bw) [(0, _), (1, _)] ⟨rfl, rfl, trivial⟩ (fun ⟨i, bw, xs, v, Lb⟩ => [(5, v), (6, .int .i64 (bw : Int)), (7, .int .i64 (i : Int))]) (fun ⟨i, bw, xs, v, Lb⟩ => a.length - i) ((0, 0, [], .slice (some ⟨b9, 0, none⟩) 0 0, [(b9, row 78 [])])) ⟨OwnS.lit (xs := []) (n := 0) rfl, rfl, Bd.nil, rfl, by omega, by omega, by simp [val]⟩ ⟨rfl, rfl, rfl, trivial⟩ ?_
    rintro ⟨i, bw, xs, v, Lb⟩ σ h1 L1 s1 ⟨ho, rfl, hxb, hxl, hbw, hi, hv⟩
    refine J.seq ?_
    refine J.seq ?_
    refine J.region ?_
    first | refine o_q (q_mvv (v := .int _ _) rfl) ?_ | refine o_q (q_mv) ?_
    first | refine o_q (q_mvv (v := .slice _ _ _) rfl) ?_ | refine o_q (q_mv) ?_
    refine o_q (q_len rfl) ?_
    refine o_q (q_lss rfl rfl) ?_
    refine JL.nil ?_
    refine J.condD rfl (fun c0 => ?_) (fun c0 => ?_)
    ·
      refine J.skip ?_
      refine J.seq ?_
      refine J.block ?_
      refine J.seq ?_
      refine J.region ?_
      first | refine o_q (q_mvv (v := .slice _ _ _) rfl) ?_ | refine o_q (q_mv) ?_
      first | refine o_q (q_mvv (v := .int _ _) rfl) ?_ | refine o_q (q_mv) ?_
      obtain ⟨kx, ox, x, rfl, hx, lx, hcx⟩ := MagAt.limb (j := i) ha (by omega)
      have gx := getD_some hx
      refine o_q (q_ia rfl rfl (by omega)) ?_
      refine o_q (q_ldf rfl hcx) ?_
      refine o_q (q_cv (c := (x : Int)) rfl (wi64 (by omega))) ?_
      first | refine o_q (q_mvv (v := .int _ _) rfl) ?_ | refine o_q (q_mv) ?_
      refine o_q (q_sub (c := (x : Int) - bw) rfl rfl (wi64 (by omega))) ?_
      first | refine o_q (q_asv (v := .int _ _) rfl) ?_ | refine o_q (q_as) ?_
      refine JL.nil ?_
      -- cut: kept [0, 1, 5, 7], said [8]
      first | refine J.cutK (α := Unit) (fun _ h' L' => b.getD i 0 < 4294967296 ∧ Lb = L') [(0, .slice _ _ _), (1, .slice _ _ _), (5, .slice _ _ _), (7, .int _ _)] ⟨rfl, rfl, rfl, rfl, trivial⟩ (fun _ => [(8, .int .i64 ((x : Int) - bw - (b.getD i 0 : Nat)))]) ?_ ?_ | refine J.cutK (α := Unit) (fun _ h' L' => b.getD i 0 < 4294967296 ∧ Lb = L') [(0, _), (1, _), (5, _), (7, _)] ⟨rfl, rfl, rfl, rfl, trivial⟩ (fun _ => [(8, .int .i64 ((x : Int) - bw - (b.getD i 0 : Nat)))]) ?_ ?_
      ·
        refine J.seq ?_
        refine J.region ?_
        first | refine o_q (q_mvv (v := .int _ _) rfl) ?_ | refine o_q (q_mv) ?_
        first | refine o_q (q_mvv (v := .slice _ _ _) rfl) ?_ | refine o_q (q_mv) ?_
        refine o_q (q_len rfl) ?_
        refine o_q (q_lss rfl rfl) ?_
        refine JL.nil ?_
        refine J.condD rfl (fun c1 => ?_) (fun c1 => ?_)
        ·
          refine J.region ?_
          first | refine o_q (q_mvv (v := .int _ _) rfl) ?_ | refine o_q (q_mv) ?_
          first | refine o_q (q_mvv (v := .slice _ _ _) rfl) ?_ | refine o_q (q_mv) ?_
          first | refine o_q (q_mvv (v := .int _ _) rfl) ?_ | refine o_q (q_mv) ?_
          obtain ⟨ky, oy, y, rfl, hy, ly, hcy⟩ := MagAt.limb (j := i) hb (by omega)
          have gy := getD_some hy
          refine o_q (q_ia rfl rfl (by omega)) ?_
          refine o_q (q_ldf rfl hcy) ?_
          refine o_q (q_cv (c := (y : Int)) rfl (wi64 (by omega))) ?_
          refine o_q (q_sub (c := (x : Int) - bw - y) rfl rfl (wi64 (by omega))) ?_
          first | refine o_q (q_asv (v := .int _ _) rfl) ?_ | refine o_q (q_as) ?_
          refine JL.nil ?_
          exact ⟨(), rfl, ⟨rfl, rfl, rfl, rfl, trivial⟩, ⟨(by rw [gy] <;> first | rfl | (show Value.int _ _ = Value.int _ _; congr 1; omega)), trivial⟩, ⟨by omega, rfl⟩, inferInstance⟩
        ·
          have gy := getD_none (l := b) (i := i) (by omega)
          refine J.skip ?_
          exact ⟨(), rfl, ⟨rfl, rfl, rfl, rfl, trivial⟩, ⟨(by rw [gy] <;> first | rfl | (show Value.int _ _ = Value.int _ _; congr 1; omega)), trivial⟩, ⟨by omega, rfl⟩, inferInstance⟩
      ·
        rintro _ σ6 h6 L6 s6 ⟨yl, rfl⟩
        refine J.seq ?_
        refine J.region ?_
        refine o_q (q_as) ?_
        refine JL.nil ?_
        -- cut: kept [0, 1, 5, 7], said [6, 8]
        first | refine J.cutK (α := Nat × Nat) (fun ⟨d, e⟩ h' L' => d + bw + b.getD i 0 = x + 4294967296 * e ∧ d < 4294967296 ∧ e ≤ 1 ∧ Lb = L') [(0, .slice _ _ _), (1, .slice _ _ _), (5, .slice _ _ _), (7, .int _ _)] ⟨rfl, rfl, rfl, rfl, trivial⟩ (fun ⟨d, e⟩ => [(6, .int .i64 (e : Int)), (8, .int .i64 (d : Int))]) ?_ ?_ | refine J.cutK (α := Nat × Nat) (fun ⟨d, e⟩ h' L' => d + bw + b.getD i 0 = x + 4294967296 * e ∧ d < 4294967296 ∧ e ≤ 1 ∧ Lb = L') [(0, _), (1, _), (5, _), (7, _)] ⟨rfl, rfl, rfl, rfl, trivial⟩ (fun ⟨d, e⟩ => [(6, .int .i64 (e : Int)), (8, .int .i64 (d : Int))]) ?_ ?_
        ·
          refine J.seq ?_
          refine J.region ?_
          first | refine o_q (q_mvv (v := .int _ _) rfl) ?_ | refine o_q (q_mv) ?_
          refine o_q (q_lss rfl rfl) ?_
          refine JL.nil ?_
          refine J.condD rfl (fun c2 => ?_) (fun c2 => ?_)
          ·
            refine J.seq ?_
            refine J.region ?_
            first | refine o_q (q_mvv (v := .int _ _) rfl) ?_ | refine o_q (q_mv) ?_
            refine o_q (q_add (c := (x : Int) - bw - (b.getD i 0 : Nat) + 4294967296) rfl rfl (wi64 (by omega))) ?_
            first | refine o_q (q_asv (v := .int _ _) rfl) ?_ | refine o_q (q_as) ?_
            refine JL.nil ?_
            refine J.region ?_
            refine o_q (q_as) ?_
            refine JL.nil ?_
            first
              | exact ⟨(((x : Int) - bw - (b.getD i 0 : Nat) + 4294967296).toNat, 1), rfl, ⟨rfl, rfl, rfl, rfl, trivial⟩, ⟨rfl, (by show Value.int _ _ = Value.int _ _; congr 1; omega), trivial⟩, ⟨by omega, by omega, by omega, rfl⟩, inferInstance⟩
              | exact ⟨(((x : Int) - bw - (b.getD i 0 : Nat)).toNat, 0), rfl, ⟨rfl, rfl, rfl, rfl, trivial⟩, ⟨rfl, (by show Value.int _ _ = Value.int _ _; congr 1; omega), trivial⟩, ⟨by omega, by omega, by omega, rfl⟩, inferInstance⟩
          ·
            refine J.skip ?_
            first
              | exact ⟨(((x : Int) - bw - (b.getD i 0 : Nat) + 4294967296).toNat, 1), rfl, ⟨rfl, rfl, rfl, rfl, trivial⟩, ⟨rfl, (by show Value.int _ _ = Value.int _ _; congr 1; omega), trivial⟩, ⟨by omega, by omega, by omega, rfl⟩, inferInstance⟩
              | exact ⟨(((x : Int) - bw - (b.getD i 0 : Nat)).toNat, 0), rfl, ⟨rfl, rfl, rfl, rfl, trivial⟩, ⟨rfl, (by show Value.int _ _ = Value.int _ _; congr 1; omega), trivial⟩, ⟨by omega, by omega, by omega, rfl⟩, inferInstance⟩
        ·
          rintro ⟨d, e⟩ σ8 h8 L8 s8 ⟨hd, hdl, he, rfl⟩
          refine J.region ?_
          first | refine o_q (q_mvv (v := .slice _ _ _) rfl) ?_ | refine o_q (q_mv) ?_
          first | refine o_q (q_mvv (v := .int _ _) rfl) ?_ | refine o_q (q_mv) ?_
          refine o_q (q_cv (c := (d : Int)) rfl (wu32 (by omega))) ?_
          first | refine o_bs [.int _ _] (by decide) rfl (fun b41 => ?_) | refine o_bs [_] (by decide) rfl (fun b41 => ?_)
          refine o_app (us := [.int .u32 (d : Int)]) (m := 1) rfl rfl ho inferInstance (src_own inferInstance (LookN.all _) rfl (by simp [plain])) (by omega) (fun v7 L7 ho7 => ?_)
          first | refine o_q (q_asv (v := .slice _ _ _) rfl) ?_ | refine o_q (q_as) ?_
          refine JL.nil ?_
          refine J.drop ?_
          refine J.region ?_
          first | refine o_q (q_mvv (v := .int _ _) rfl) ?_ | refine o_q (q_mv) ?_
          refine o_q (q_add (c := ((i + 1 : Nat) : Int)) rfl rfl (by rw [wi64 (by omega)]; omega)) ?_
          first | refine o_q (q_asv (v := .int _ _) rfl) ?_ | refine o_q (q_as) ?_
          refine JL.nil ?_
          exact ⟨(i + 1, e, xs ++ [d], v7, L7), rfl, ⟨rfl, rfl, trivial⟩, ⟨rfl, rfl, rfl, trivial⟩, ⟨by rw [u32s_append]; exact ho7, rfl, hxb.snoc hdl, by simp [hxl], by omega, by omega, minus_step hxl hv (by rw [gx]; exact hd)⟩, by show a.length - (i + 1) < a.length - i; omega, inferInstance⟩
    ·
      refine J.exit ?_
      exact ⟨(xs, v, _), rfl, trivial, ⟨rfl, trivial⟩, ⟨hxl ▸ ho, rfl, hxb, by omega, (by
        have h1 : i = a.length := by omega
        rw [List.take_of_length_le (by omega), List.take_of_length_le (by omega), h1] at hv
        exact minus_end hxb (by omega) hv hba)⟩, inferInstance⟩
  ·
    rintro ⟨xs, v, Lb⟩ σ4 h4 L4 s4 ⟨ho, rfl, hxb, hxl, hv⟩
    refine J.seq ?_
    refine J.fzS ho (fun h5 s5 hs5 => ?_)
    refine J.region ?_
    first | refine o_q (q_mvv (v := .slice _ _ _) rfl) ?_ | refine o_q (q_mv) ?_
    first | refine o_q (q_asv (v := .slice _ _ _) rfl) ?_ | refine o_q (q_as) ?_
    refine JL.nil ?_
    refine J.ret ?_
    exact ret_ok (fn := Try.f57) rfl (.tmp rfl .nil) ⟨xs, MagAt.of hs5 hxb, hv, hxl⟩
theorem same_fn {h : Heap} {va vb : Value} {x y : Int} (ha : IntAt h va x) (hb : IntAt h vb y) (fa : Fit x) (fb : Fit y) :
    Fn Try.prog 53 #[va, vb] h fun r _ => r = .bool (decide (x = y)) := by
  obtain ⟨pa, ca, rfl, hca, ha⟩ := ha.out
  obtain ⟨pb, cb, rfl, hcb, hb⟩ := hb.out
  refine Fn.intro (args := [_, _]) Try.func53 rfl rfl (Nat.le_of_ble_eq_true rfl) fun w => ?_
  refine J.seq ?_
  refine J.region ?_
  first | refine o_bx (v := .agg _) rfl rfl (fun b2 => ?_) | refine o_bx rfl rfl (fun b2 => ?_)
  first | refine o_bx (v := .agg _) rfl rfl (fun b3 => ?_) | refine o_bx rfl rfl (fun b3 => ?_)
  refine o_q (q_as) ?_
  refine JL.nil ?_
  refine J.seq ?_
  rcases same3 x y with hs | ⟨hs, hl⟩ | ⟨hs, hl⟩
  ·
    refine J.region ?_
    refine o_q (q_fa rfl) ?_
    refine o_q (q_ld rfl inferInstance rfl) ?_
    refine o_q (q_fa rfl) ?_
    refine o_q (q_ld rfl inferInstance rfl) ?_
    refine o_q (q_beq rfl rfl) ?_
    first | refine o_q (q_mvv (v := .bool _) rfl) ?_ | refine o_q (q_mv) ?_
    refine JL.guardF rfl rfl hs rfl ?_
    refine JL.guardF rfl rfl hs rfl ?_
    refine JL.guardF rfl rfl hs rfl ?_
    refine JL.guardF rfl rfl hs rfl ?_
    refine JL.guardF rfl rfl hs rfl ?_
    refine JL.guardF rfl rfl hs rfl ?_
    refine o_q (q_pickF rfl hs) ?_
    first | refine o_q (q_mvv (v := .bool _) rfl) ?_ | refine o_q (q_mv) ?_
    refine JL.guardF rfl rfl rfl rfl ?_
    refine JL.guardF rfl rfl rfl rfl ?_
    refine JL.guardF rfl rfl rfl rfl ?_
    refine JL.guardF rfl rfl rfl rfl ?_
    refine JL.guardF rfl rfl rfl rfl ?_
    refine JL.guardF rfl rfl rfl rfl ?_
    refine o_q (q_pickF rfl rfl) ?_
    first | refine o_q (q_asv (v := .bool _) rfl) ?_ | refine o_q (q_as) ?_
    refine JL.nil ?_
    refine J.ret ?_
    exact ret_ok (fn := Try.f53) rfl (.tmp rfl .nil) (congrArg Value.bool (decide_eq_false (fun h => sign_ne hs (by rw [h]))).symm)
  ·
    refine J.region ?_
    refine o_q (q_fa rfl) ?_
    refine o_q (q_ld rfl inferInstance rfl) ?_
    refine o_q (q_fa rfl) ?_
    refine o_q (q_ld rfl inferInstance rfl) ?_
    refine o_q (q_beq rfl rfl) ?_
    first | refine o_q (q_mvv (v := .bool _) rfl) ?_ | refine o_q (q_mv) ?_
    refine JL.guardT rfl rfl hs ?_
    refine o_q (q_fa rfl) ?_
    refine JL.guardT rfl rfl hs ?_
    refine o_q (q_ld rfl inferInstance rfl) ?_
    refine JL.guardT rfl rfl hs ?_
    refine o_q (q_fa rfl) ?_
    refine JL.guardT rfl rfl hs ?_
    refine o_q (q_ld rfl inferInstance rfl) ?_
    refine JL.guardT rfl rfl hs ?_
    refine o_call (less_fn ha hb (Nat.le_trans fa (by decide)) (Nat.le_trans fb (by decide))) (fun v1 hv1 sv1 ev1 => ?_)
    subst ev1
    refine JL.guardT rfl rfl hs ?_
    refine o_q (q_not rfl) ?_
    first | refine o_q (q_pickTv (v := .bool _) rfl hs rfl) ?_ | refine o_q (q_pickT rfl hs) ?_
    first | refine o_q (q_mvv (v := .bool _) rfl) ?_ | refine o_q (q_mv) ?_
    refine JL.guardF rfl rfl (by rw [hl] <;> rfl) rfl ?_
    refine JL.guardF rfl rfl (by rw [hl] <;> rfl) rfl ?_
    refine JL.guardF rfl rfl (by rw [hl] <;> rfl) rfl ?_
    refine JL.guardF rfl rfl (by rw [hl] <;> rfl) rfl ?_
    refine JL.guardF rfl rfl (by rw [hl] <;> rfl) rfl ?_
    refine JL.guardF rfl rfl (by rw [hl] <;> rfl) rfl ?_
    refine o_q (q_pickF rfl (by rw [hl] <;> rfl)) ?_
    first | refine o_q (q_asv (v := .bool _) rfl) ?_ | refine o_q (q_as) ?_
    refine JL.nil ?_
    refine J.ret ?_
    exact ret_ok (fn := Try.f53) rfl (.tmp rfl .nil) (congrArg Value.bool (decide_eq_false (fun h => by rw [h] at hl; simp at hl)).symm)
  ·
    refine J.region ?_
    refine o_q (q_fa rfl) ?_
    refine o_q (q_ld rfl inferInstance rfl) ?_
    refine o_q (q_fa rfl) ?_
    refine o_q (q_ld rfl inferInstance rfl) ?_
    refine o_q (q_beq rfl rfl) ?_
    first | refine o_q (q_mvv (v := .bool _) rfl) ?_ | refine o_q (q_mv) ?_
    refine JL.guardT rfl rfl hs ?_
    refine o_q (q_fa rfl) ?_
    refine JL.guardT rfl rfl hs ?_
    refine o_q (q_ld rfl inferInstance rfl) ?_
    refine JL.guardT rfl rfl hs ?_
    refine o_q (q_fa rfl) ?_
    refine JL.guardT rfl rfl hs ?_
    refine o_q (q_ld rfl inferInstance rfl) ?_
    refine JL.guardT rfl rfl hs ?_
    refine o_call (less_fn ha hb (Nat.le_trans fa (by decide)) (Nat.le_trans fb (by decide))) (fun v1 hv1 sv1 ev1 => ?_)
    subst ev1
    refine JL.guardT rfl rfl hs ?_
    refine o_q (q_not rfl) ?_
    first | refine o_q (q_pickTv (v := .bool _) rfl hs rfl) ?_ | refine o_q (q_pickT rfl hs) ?_
    first | refine o_q (q_mvv (v := .bool _) rfl) ?_ | refine o_q (q_mv) ?_
    refine JL.guardT rfl rfl (by rw [hl] <;> rfl) ?_
    refine o_q (q_fa rfl) ?_
    refine JL.guardT rfl rfl (by rw [hl] <;> rfl) ?_
    refine o_q (q_ld rfl inferInstance rfl) ?_
    refine JL.guardT rfl rfl (by rw [hl] <;> rfl) ?_
    refine o_q (q_fa rfl) ?_
    refine JL.guardT rfl rfl (by rw [hl] <;> rfl) ?_
    refine o_q (q_ld rfl inferInstance rfl) ?_
    refine JL.guardT rfl rfl (by rw [hl] <;> rfl) ?_
    refine o_call (less_fn hb.mono ha.mono (Nat.le_trans fb (by decide)) (Nat.le_trans fa (by decide))) (fun v2 hv2 sv2 ev2 => ?_)
    subst ev2
    refine JL.guardT rfl rfl (by rw [hl] <;> rfl) ?_
    refine o_q (q_not rfl) ?_
    first | refine o_q (q_pickTv (v := .bool _) rfl (by rw [hl] <;> rfl) rfl) ?_ | refine o_q (q_pickT rfl (by rw [hl] <;> rfl)) ?_
    first | refine o_q (q_asv (v := .bool _) rfl) ?_ | refine o_q (q_as) ?_
    refine JL.nil ?_
    refine J.ret ?_
    refine ret_ok (fn := Try.f53) rfl (.tmp rfl .nil) (congrArg Value.bool ?_)
    have h1 := of_decide_eq_false hl
    have h2 := sign_eq hs
    by_cases h3 : y.natAbs < x.natAbs
    · rw [decide_eq_true h3, decide_eq_false (show ¬ x = y by omega)]; rfl
    · rw [decide_eq_false h3, decide_eq_true (show x = y by omega)]; rfl
theorem addr_fn {h : Heap} {va vb : Value} {x y : Int} (ha : IntAt h va x) (hb : IntAt h vb y) (fa : Fit x) (fb : Fit y) :
    Fn Try.prog 20 #[va, vb] h fun r h' => IntAt h' r (x + y) := by
  obtain ⟨pa, ca, rfl, hca, ha⟩ := ha.out
  obtain ⟨pb, cb, rfl, hcb, hb⟩ := hb.out
  have hlen2 : ∀ {x y : Nat}, x ≤ y → (limbs x).length ≤ (limbs y).length := fun h => limbs_len.2 (Nat.lt_of_le_of_lt h (limbs_len.1 (Nat.le_refl _)))
  refine Fn.intro (args := [_, _]) Try.func20 rfl rfl (Nat.le_of_ble_eq_true rfl) fun w => ?_
  refine J.seq ?_
  refine J.region ?_
  first | refine o_bx (v := .agg _) rfl rfl (fun b2 => ?_) | refine o_bx rfl rfl (fun b2 => ?_)
  first | refine o_bx (v := .agg _) rfl rfl (fun b3 => ?_) | refine o_bx rfl rfl (fun b3 => ?_)
  refine o_al (fun b4 => ?_)
  refine JL.nil ?_
  refine J.seq ?_
  refine J.seq ?_
  refine J.region ?_
  refine o_q (q_fa rfl) ?_
  refine o_q (q_ld rfl inferInstance rfl) ?_
  refine o_q (q_fa rfl) ?_
  refine o_q (q_ld rfl inferInstance rfl) ?_
  refine o_q (q_beq rfl rfl) ?_
  refine JL.nil ?_
  refine J.cond rfl (fun hs => ?_) (fun hs => ?_)
  ·
    have hs2 := sign_eq hs
    have sum_z : (if decide (x < 0) = true then -((x.natAbs + y.natAbs : Nat) : Int) else ((x.natAbs + y.natAbs : Nat) : Int)) = x + y := by
      split <;> simp only [decide_eq_true_eq] at * <;> omega
    refine J.seq ?_
    refine J.drawA [8] ?_
    refine JD.calc 0 (by kernel_rfl) rfl trivial ss_sub (q_fa rfl) ?_
    refine JD.load 1 (by kernel_rfl) rfl trivial (q_ld rfl inferInstance rfl) ?_
    refine JD.calc 2 (by kernel_rfl) rfl trivial ss_sub (q_fa rfl) ?_
    refine JD.load 3 (by kernel_rfl) rfl trivial (q_ld rfl inferInstance rfl) ?_
    refine JD.calc 5 (by kernel_rfl) rfl trivial ss_sub (q_fa rfl) ?_
    refine JD.load 6 (by kernel_rfl) rfl trivial (q_ld rfl inferInstance rfl) ?_
    refine JD.one 4 (by kernel_rfl) ?_
    refine JX.eff rfl rfl trivial ?_
    refine o_call (plusr_fn ha hb (Nat.le_trans fa (by decide)) (Nat.le_trans fb (by decide))) (fun r1 g1 t1 hr => ?_)
    obtain ⟨l, hl, hv, hlen⟩ := hr
    refine JL.nil ⟨rfl, inferInstance, inferInstance, ?_⟩
    refine JD.one 7 (by kernel_rfl) ?_
    refine JX.eff rfl rfl trivial ?_
    refine o_call (made_fn hl (by have := Nat.le_trans fa (by decide : 1000000 ≤ 1000001); have := fa; have := fb; unfold Fit at *; omega)) (fun r2 g2 t2 hr => ?_)
    rw [hv, val_limbs, val_limbs] at hr
    rw [sum_z] at hr
    obtain ⟨pr, cr, rfl, _, hm1⟩ := hr.out
    refine JL.nil ⟨rfl, inferInstance, inferInstance, ?_⟩
    refine JD.one 8 (by kernel_rfl) ?_
    refine JX.mut rfl rfl trivial ?_
    refine o_stw (vs := [_, _]) rfl rfl rfl inferInstance rfl rfl ?_
    refine JL.nil ⟨rfl, ?_⟩
    refine JD.done (by kernel_rfl) ?_ _
    refine J.ret ?_
    exact ret_ok (fn := Try.f20) rfl (.agg rfl inferInstance inferInstance .nil) (IntAt.in hm1)
  ·
    have hs2 := sign_ne hs
    refine J.skip ?_
    refine J.seq ?_
    refine J.seq ?_
    refine J.region ?_
    refine o_q (q_fa rfl) ?_
    refine o_q (q_ld rfl inferInstance rfl) ?_
    refine o_q (q_fa rfl) ?_
    refine o_q (q_ld rfl inferInstance rfl) ?_
    refine o_call (less_fn ha hb (Nat.le_trans fa (by decide)) (Nat.le_trans fb (by decide))) (fun v1 hv1 sv1 ev1 => ?_)
    subst ev1
    refine JL.nil ?_
    refine J.condD rfl (fun c1 => ?_) (fun c1 => ?_)
    ·
      have sum_z : (if decide (y < 0) = true then -((y.natAbs - x.natAbs : Nat) : Int) else ((y.natAbs - x.natAbs : Nat) : Int)) = x + y := by
        split <;> simp only [decide_eq_true_eq] at * <;> omega
      refine J.seq ?_
      refine J.drawA [8] ?_
      refine JD.calc 0 (by kernel_rfl) rfl trivial ss_sub (q_fa rfl) ?_
      refine JD.load 1 (by kernel_rfl) rfl trivial (q_ld rfl inferInstance rfl) ?_
      refine JD.calc 2 (by kernel_rfl) rfl trivial ss_sub (q_fa rfl) ?_
      refine JD.load 3 (by kernel_rfl) rfl trivial (q_ld rfl inferInstance rfl) ?_
      refine JD.calc 5 (by kernel_rfl) rfl trivial ss_sub (q_fa rfl) ?_
      refine JD.load 6 (by kernel_rfl) rfl trivial (q_ld rfl inferInstance rfl) ?_
      refine JD.one 4 (by kernel_rfl) ?_
      refine JX.eff rfl rfl trivial ?_
      refine o_call (minusr_fn hb.mono ha.mono (Nat.le_trans fb (by decide)) (Nat.le_trans fa (by decide)) (hlen2 (by omega)) (by rw [val_limbs, val_limbs]; omega)) (fun r1 g1 t1 hr => ?_)
      obtain ⟨l, hl, hv, hlen⟩ := hr
      refine JL.nil ⟨rfl, inferInstance, inferInstance, ?_⟩
      refine JD.one 7 (by kernel_rfl) ?_
      refine JX.eff rfl rfl trivial ?_
      refine o_call (made_fn hl (by have := Nat.le_trans fa (by decide : 1000000 ≤ 1000001); have := fa; have := fb; unfold Fit at *; omega)) (fun r2 g2 t2 hr => ?_)
      rw [hv, val_limbs, val_limbs] at hr
      rw [sum_z] at hr
      obtain ⟨pr, cr, rfl, _, hm1⟩ := hr.out
      refine JL.nil ⟨rfl, inferInstance, inferInstance, ?_⟩
      refine JD.one 8 (by kernel_rfl) ?_
      refine JX.mut rfl rfl trivial ?_
      refine o_stw (vs := [_, _]) rfl rfl rfl inferInstance rfl rfl ?_
      refine JL.nil ⟨rfl, ?_⟩
      refine JD.done (by kernel_rfl) ?_ _
      refine J.ret ?_
      exact ret_ok (fn := Try.f20) rfl (.agg rfl inferInstance inferInstance .nil) (IntAt.in hm1)
    ·
      have sum_z : (if decide (x < 0) = true then -((x.natAbs - y.natAbs : Nat) : Int) else ((x.natAbs - y.natAbs : Nat) : Int)) = x + y := by
        split <;> simp only [decide_eq_true_eq] at * <;> omega
      refine J.skip ?_
      refine J.seq ?_
      refine J.drawA [8] ?_
      refine JD.calc 0 (by kernel_rfl) rfl trivial ss_sub (q_fa rfl) ?_
      refine JD.load 1 (by kernel_rfl) rfl trivial (q_ld rfl inferInstance rfl) ?_
      refine JD.calc 2 (by kernel_rfl) rfl trivial ss_sub (q_fa rfl) ?_
      refine JD.load 3 (by kernel_rfl) rfl trivial (q_ld rfl inferInstance rfl) ?_
      refine JD.calc 5 (by kernel_rfl) rfl trivial ss_sub (q_fa rfl) ?_
      refine JD.load 6 (by kernel_rfl) rfl trivial (q_ld rfl inferInstance rfl) ?_
      refine JD.one 4 (by kernel_rfl) ?_
      refine JX.eff rfl rfl trivial ?_
      refine o_call (minusr_fn ha.mono hb.mono (Nat.le_trans fa (by decide)) (Nat.le_trans fb (by decide)) (hlen2 (by omega)) (by rw [val_limbs, val_limbs]; omega)) (fun r1 g1 t1 hr => ?_)
      obtain ⟨l, hl, hv, hlen⟩ := hr
      refine JL.nil ⟨rfl, inferInstance, inferInstance, ?_⟩
      refine JD.one 7 (by kernel_rfl) ?_
      refine JX.eff rfl rfl trivial ?_
      refine o_call (made_fn hl (by have := Nat.le_trans fa (by decide : 1000000 ≤ 1000001); have := fa; have := fb; unfold Fit at *; omega)) (fun r2 g2 t2 hr => ?_)
      rw [hv, val_limbs, val_limbs] at hr
      rw [sum_z] at hr
      obtain ⟨pr, cr, rfl, _, hm1⟩ := hr.out
      refine JL.nil ⟨rfl, inferInstance, inferInstance, ?_⟩
      refine JD.one 8 (by kernel_rfl) ?_
      refine JX.mut rfl rfl trivial ?_
      refine o_stw (vs := [_, _]) rfl rfl rfl inferInstance rfl rfl ?_
      refine JL.nil ⟨rfl, ?_⟩
      refine JD.done (by kernel_rfl) ?_ _
      refine J.ret ?_
      exact ret_ok (fn := Try.f20) rfl (.agg rfl inferInstance inferInstance .nil) (IntAt.in hm1)
end Go.Z
end
section
set_option linter.unusedSimpArgs false
set_option linter.unusedVariables false
/- The functions of package integer and of its reference, walked: products, signs, validity, comparison. -/
set_option linter.unusedSimpArgs false
set_option linter.unusedVariables false
namespace Go.Z
open Go Go.RowKit Go.Proofs
set_option maxHeartbeats 4000000 in
theorem mulr_fn {h : Heap} {va vb : Value} {x y : Int} (ha : IntAt h va x) (hb : IntAt h vb y) (fa : Fit x) (fb : Fit y) :
    Fn Try.prog 54 #[va, vb] h fun r h' => IntAt h' r (x * y) := by
  obtain ⟨pa, ca, rfl, hca, ha⟩ := ha.out
  obtain ⟨pb, cb, rfl, hcb, hb⟩ := hb.out
  have la := fa
  have lb := fb
  unfold Fit at la lb
  refine Fn.intro (args := [_, _]) Try.func54 rfl rfl (Nat.le_of_ble_eq_true rfl) fun w => ?_
  refine J.seq ?_
  refine J.region ?_
  first | refine o_bx (v := .agg _) rfl rfl (fun b2 => ?_) | refine o_bx rfl rfl (fun b2 => ?_)
  first | refine o_bx (v := .agg _) rfl rfl (fun b3 => ?_) | refine o_bx rfl rfl (fun b3 => ?_)
  refine o_al (fun b4 => ?_)
  refine JL.nil ?_
  refine J.seq ?_
  refine J.region ?_
  refine o_q (q_fa rfl) ?_
  refine o_q (q_ld rfl inferInstance rfl) ?_
  refine o_q (q_len rfl) ?_
  refine o_q (q_fa rfl) ?_
  refine o_q (q_ld rfl inferInstance rfl) ?_
  refine o_q (q_len rfl) ?_
  refine o_q (q_add rfl rfl (wi64 (by omega))) ?_
  refine o_q (q_add rfl rfl (wi64 (by omega))) ?_
  refine o_mk (n := (limbs x.natAbs).length + (limbs y.natAbs).length + 1) (m := (limbs x.natAbs).length + (limbs y.natAbs).length + 1) rfl rfl (by omega) (by omega) (Nat.le_refl _) (by omega) (by omega) (fun b17 => ?_)
  first | refine o_q (q_asv (v := .slice _ _ _) rfl) ?_ | refine o_q (q_as) ?_
  refine JL.nil ?_
  -- cut: kept [2, 3, 4, 5], said []
  first | refine J.cutK (α := List Nat) (fun out h' L' => out.length = (limbs x.natAbs).length + (limbs y.natAbs).length + 1 ∧ Bd out ∧ val out = val (limbs x.natAbs) * val (limbs y.natAbs) ∧ [(b17, row 78 (u32s out)), (b4, row 37 [.bool false, .slice none 0 0]), (b3, row 37 [.bool (decide (y < 0)), .slice pb (limbs y.natAbs).length cb]), (b2, row 37 [.bool (decide (x < 0)), .slice pa (limbs x.natAbs).length ca])] = L') [(2, .pointer _), (3, .pointer _), (4, .pointer _), (5, .slice _ _ _)] ⟨rfl, rfl, rfl, rfl, trivial⟩ (fun _ => []) ?_ ?_ | refine J.cutK (α := List Nat) (fun out h' L' => out.length = (limbs x.natAbs).length + (limbs y.natAbs).length + 1 ∧ Bd out ∧ val out = val (limbs x.natAbs) * val (limbs y.natAbs) ∧ [(b17, row 78 (u32s out)), (b4, row 37 [.bool false, .slice none 0 0]), (b3, row 37 [.bool (decide (y < 0)), .slice pb (limbs y.natAbs).length cb]), (b2, row 37 [.bool (decide (x < 0)), .slice pa (limbs x.natAbs).length ca])] = L') [(2, _), (3, _), (4, _), (5, _)] ⟨rfl, rfl, rfl, rfl, trivial⟩ (fun _ => []) ?_ ?_
  ·
    refine J.seq ?_
    refine J.region ?_
    refine o_q (q_as) ?_
    refine JL.nil ?_
    refine J.block ?_
    -- loop 0: kept [2, 3, 4, 5], said [6]
    first | refine J.loopK (α := Nat × List Nat) (fun ⟨i, out⟩ h' L' => i ≤ (limbs x.natAbs).length ∧ out.length = (limbs x.natAbs).length + (limbs y.natAbs).length + 1 ∧ Bd out ∧ val out = val ((limbs x.natAbs).take i) * val (limbs y.natAbs) ∧ [(b17, row 78 (u32s out)), (b4, row 37 [.bool false, .slice none 0 0]), (b3, row 37 [.bool (decide (y < 0)), .slice pb (limbs y.natAbs).length cb]), (b2, row 37 [.bool (decide (x < 0)), .slice pa (limbs x.natAbs).length ca])] = L') [(2, .pointer _), (3, .pointer _), (4, .pointer _), (5, .slice _ _ _)] ⟨rfl, rfl, rfl, rfl, trivial⟩ (fun ⟨i, out⟩ => [(6, .int .i64 (i : Int))]) (fun ⟨i, out⟩ => (limbs x.natAbs).length - i) ((0, List.replicate ((limbs x.natAbs).length + (limbs y.natAbs).length + 1) 0)) ⟨by omega, by simp, Bd.rep0 _, by simp [val_rep0, val], by rw [flat1]⟩ ⟨rfl, trivial⟩ ?_ | refine J.loopK (α := Nat × List Nat) (fun ⟨i, out⟩ h' L' => i ≤ (limbs x.natAbs).length ∧ out.length = (limbs x.natAbs).length + (limbs y.natAbs).length + 1 ∧ Bd out ∧ val out = val ((limbs x.natAbs).take i) * val (limbs y.natAbs) ∧ [(b17, row 78 (u32s out)), (b4, row 37 [.bool false, .slice none 0 0]), (b3, row 37 [.bool (decide (y < 0)), .slice pb (limbs y.natAbs).length cb]), (b2, row 37 [.bool (decide (x < 0)), .slice pa (limbs x.natAbs).length ca])] = L') [(2, _), (3, _), (4, _), (5, _)] ⟨rfl, rfl, rfl, rfl, trivial⟩ (fun ⟨i, out⟩ => [(6, .int .i64 (i : Int))]) (fun ⟨i, out⟩ => (limbs x.natAbs).length - i) ((0, List.replicate ((limbs x.natAbs).length + (limbs y.natAbs).length + 1) 0)) ⟨by omega, by simp, Bd.rep0 _, by simp [val_rep0, val], by rw [flat1]⟩ ⟨rfl, trivial⟩ ?_
    rintro ⟨i, out⟩ σ h1 L1 s1 ⟨hi, hol, hob, hov, rfl⟩
    refine J.seq ?_
    refine J.seq ?_
    refine J.region ?_
    first | refine o_q (q_mvv (v := .int _ _) rfl) ?_ | refine o_q (q_mv) ?_
    refine o_q (q_fa rfl) ?_
    refine o_q (q_ld rfl inferInstance rfl) ?_
    refine o_q (q_len rfl) ?_
    refine o_q (q_lss rfl rfl) ?_
    refine JL.nil ?_
    refine J.condD rfl (fun c0 => ?_) (fun c0 => ?_)
    ·
      have c0' : i < (limbs x.natAbs).length := by omega
      refine J.skip ?_
      -- cut: kept [2, 3, 4, 5, 6], said []
      first | refine J.cutK (α := List Nat) (fun out h' L' => out.length = (limbs x.natAbs).length + (limbs y.natAbs).length + 1 ∧ Bd out ∧ val out = val ((limbs x.natAbs).take (i + 1)) * val (limbs y.natAbs) ∧ [(b17, row 78 (u32s out)), (b4, row 37 [.bool false, .slice none 0 0]), (b3, row 37 [.bool (decide (y < 0)), .slice pb (limbs y.natAbs).length cb]), (b2, row 37 [.bool (decide (x < 0)), .slice pa (limbs x.natAbs).length ca])] = L') [(2, .pointer _), (3, .pointer _), (4, .pointer _), (5, .slice _ _ _), (6, .int _ _)] ⟨rfl, rfl, rfl, rfl, rfl, trivial⟩ (fun _ => []) ?_ ?_ | refine J.cutK (α := List Nat) (fun out h' L' => out.length = (limbs x.natAbs).length + (limbs y.natAbs).length + 1 ∧ Bd out ∧ val out = val ((limbs x.natAbs).take (i + 1)) * val (limbs y.natAbs) ∧ [(b17, row 78 (u32s out)), (b4, row 37 [.bool false, .slice none 0 0]), (b3, row 37 [.bool (decide (y < 0)), .slice pb (limbs y.natAbs).length cb]), (b2, row 37 [.bool (decide (x < 0)), .slice pa (limbs x.natAbs).length ca])] = L') [(2, _), (3, _), (4, _), (5, _), (6, _)] ⟨rfl, rfl, rfl, rfl, rfl, trivial⟩ (fun _ => []) ?_ ?_
      ·
        refine J.block ?_
        refine J.seq ?_
        refine J.region ?_
        refine o_q (q_as) ?_
        refine JL.nil ?_
        refine J.seq ?_
        refine J.region ?_
        refine o_q (q_as) ?_
        refine JL.nil ?_
        refine J.block ?_
        -- loop 1: kept [2, 3, 4, 5, 6], said [7, 8]
        first | refine J.loopK (α := Nat × Nat × List Nat) (fun ⟨k, cy, out⟩ h' L' => k ≤ (limbs y.natAbs).length + 1 ∧ cy < 4294967296 ∧ out.length = (limbs x.natAbs).length + (limbs y.natAbs).length + 1 ∧ Bd out ∧ val out + Bs ^ (i + k) * cy = val ((limbs x.natAbs).take i) * val (limbs y.natAbs) + Bs ^ i * (limbs x.natAbs).getD i 0 * val ((limbs y.natAbs).take k) ∧ [(b17, row 78 (u32s out)), (b4, row 37 [.bool false, .slice none 0 0]), (b3, row 37 [.bool (decide (y < 0)), .slice pb (limbs y.natAbs).length cb]), (b2, row 37 [.bool (decide (x < 0)), .slice pa (limbs x.natAbs).length ca])] = L') [(2, .pointer _), (3, .pointer _), (4, .pointer _), (5, .slice _ _ _), (6, .int _ _)] ⟨rfl, rfl, rfl, rfl, rfl, trivial⟩ (fun ⟨k, cy, out⟩ => [(7, .int .u64 (cy : Int)), (8, .int .i64 (k : Int))]) (fun ⟨k, cy, out⟩ => (limbs y.natAbs).length + 2 - k) ((0, 0, out)) ⟨by omega, by omega, hol, hob, by simp [hov, val], rfl⟩ ⟨rfl, rfl, trivial⟩ ?_ | refine J.loopK (α := Nat × Nat × List Nat) (fun ⟨k, cy, out⟩ h' L' => k ≤ (limbs y.natAbs).length + 1 ∧ cy < 4294967296 ∧ out.length = (limbs x.natAbs).length + (limbs y.natAbs).length + 1 ∧ Bd out ∧ val out + Bs ^ (i + k) * cy = val ((limbs x.natAbs).take i) * val (limbs y.natAbs) + Bs ^ i * (limbs x.natAbs).getD i 0 * val ((limbs y.natAbs).take k) ∧ [(b17, row 78 (u32s out)), (b4, row 37 [.bool false, .slice none 0 0]), (b3, row 37 [.bool (decide (y < 0)), .slice pb (limbs y.natAbs).length cb]), (b2, row 37 [.bool (decide (x < 0)), .slice pa (limbs x.natAbs).length ca])] = L') [(2, _), (3, _), (4, _), (5, _), (6, _)] ⟨rfl, rfl, rfl, rfl, rfl, trivial⟩ (fun ⟨k, cy, out⟩ => [(7, .int .u64 (cy : Int)), (8, .int .i64 (k : Int))]) (fun ⟨k, cy, out⟩ => (limbs y.natAbs).length + 2 - k) ((0, 0, out)) ⟨by omega, by omega, hol, hob, by simp [hov, val], rfl⟩ ⟨rfl, rfl, trivial⟩ ?_
        rintro ⟨k, cy, out⟩ σ2 h2 L2 s2 ⟨hk, hcl, hol, hob, hv, rfl⟩
        -- cut: kept [2, 3, 4, 5, 6, 7, 8], said []
        first | refine J.cutK (α := Unit) (fun _ h' L' => (k < (limbs y.natAbs).length ∨ 0 < cy) ∧ [(b17, row 78 (u32s out)), (b4, row 37 [.bool false, .slice none 0 0]), (b3, row 37 [.bool (decide (y < 0)), .slice pb (limbs y.natAbs).length cb]), (b2, row 37 [.bool (decide (x < 0)), .slice pa (limbs x.natAbs).length ca])] = L') [(2, .pointer _), (3, .pointer _), (4, .pointer _), (5, .slice _ _ _), (6, .int _ _), (7, .int _ _), (8, .int _ _)] ⟨rfl, rfl, rfl, rfl, rfl, rfl, rfl, trivial⟩ (fun _ => []) ?_ ?_ | refine J.cutK (α := Unit) (fun _ h' L' => (k < (limbs y.natAbs).length ∨ 0 < cy) ∧ [(b17, row 78 (u32s out)), (b4, row 37 [.bool false, .slice none 0 0]), (b3, row 37 [.bool (decide (y < 0)), .slice pb (limbs y.natAbs).length cb]), (b2, row 37 [.bool (decide (x < 0)), .slice pa (limbs x.natAbs).length ca])] = L') [(2, _), (3, _), (4, _), (5, _), (6, _), (7, _), (8, _)] ⟨rfl, rfl, rfl, rfl, rfl, rfl, rfl, trivial⟩ (fun _ => []) ?_ ?_
        ·
          refine J.seq ?_
          rcases Nat.lt_or_ge k (limbs y.natAbs).length with c1 | c1
          rotate_left
          rcases Nat.eq_zero_or_pos cy with c3 | c3
          ·
            refine J.region ?_
            first | refine o_q (q_mvv (v := .int _ _) rfl) ?_ | refine o_q (q_mv) ?_
            refine o_q (q_fa rfl) ?_
            refine o_q (q_ld rfl inferInstance rfl) ?_
            refine o_q (q_len rfl) ?_
            refine o_q (q_lss rfl rfl) ?_
            first | refine o_q (q_mvv (v := .bool _) rfl) ?_ | refine o_q (q_mv) ?_
            refine JL.guardT rfl rfl (decide_eq_false (by omega)) ?_
            first | refine o_q (q_mvv (v := .int _ _) rfl) ?_ | refine o_q (q_mv) ?_
            refine JL.guardT rfl rfl (decide_eq_false (by omega)) ?_
            refine o_q (q_gtr rfl rfl) ?_
            first | refine o_q (q_pickFv (v := .bool _) rfl (decide_eq_false (by omega)) rfl) ?_ | refine o_q (q_pickF rfl (decide_eq_false (by omega))) ?_
            refine JL.nil ?_
            refine J.condF rfl (decide_eq_false (by omega)) ?_
            refine J.exit ?_
            exact ⟨out, rfl, ⟨rfl, rfl, rfl, rfl, rfl, trivial⟩, trivial, ⟨hol, hob, (by
              have h1 : cy = 0 := by omega
              rw [h1, List.take_of_length_le (l := (limbs y.natAbs)) (by omega)] at hv
              rw [val_take_succ, Nat.add_mul]; omega), rfl⟩, inferInstance⟩
          ·
            refine J.region ?_
            first | refine o_q (q_mvv (v := .int _ _) rfl) ?_ | refine o_q (q_mv) ?_
            refine o_q (q_fa rfl) ?_
            refine o_q (q_ld rfl inferInstance rfl) ?_
            refine o_q (q_len rfl) ?_
            refine o_q (q_lss rfl rfl) ?_
            first | refine o_q (q_mvv (v := .bool _) rfl) ?_ | refine o_q (q_mv) ?_
            refine JL.guardT rfl rfl (decide_eq_false (by omega)) ?_
            first | refine o_q (q_mvv (v := .int _ _) rfl) ?_ | refine o_q (q_mv) ?_
            refine JL.guardT rfl rfl (decide_eq_false (by omega)) ?_
            refine o_q (q_gtr rfl rfl) ?_
            first | refine o_q (q_pickFv (v := .bool _) rfl (decide_eq_false (by omega)) rfl) ?_ | refine o_q (q_pickF rfl (decide_eq_false (by omega))) ?_
            refine JL.nil ?_
            refine J.condT rfl (decide_eq_true (by omega)) ?_
            refine J.skip ?_
            exact ⟨(), rfl, ⟨rfl, rfl, rfl, rfl, rfl, rfl, rfl, trivial⟩, trivial, ⟨by omega, rfl⟩, inferInstance⟩
          ·
            refine J.region ?_
            first | refine o_q (q_mvv (v := .int _ _) rfl) ?_ | refine o_q (q_mv) ?_
            refine o_q (q_fa rfl) ?_
            refine o_q (q_ld rfl inferInstance rfl) ?_
            refine o_q (q_len rfl) ?_
            refine o_q (q_lss rfl rfl) ?_
            first | refine o_q (q_mvv (v := .bool _) rfl) ?_ | refine o_q (q_mv) ?_
            refine JL.guardF rfl rfl (decide_eq_true (by omega)) rfl ?_
            refine JL.guardF rfl rfl (decide_eq_true (by omega)) rfl ?_
            refine o_q (q_pickT rfl (decide_eq_true (by omega))) ?_
            refine JL.nil ?_
            refine J.condT rfl rfl ?_
            refine J.skip ?_
            exact ⟨(), rfl, ⟨rfl, rfl, rfl, rfl, rfl, rfl, rfl, trivial⟩, trivial, ⟨by omega, rfl⟩, inferInstance⟩
        ·
          rintro _ σ3 h3 L3 s3 ⟨hgo, rfl⟩
          refine J.seq ?_
          refine J.block ?_
          refine J.seq ?_
          have hkb : k < (limbs y.natAbs).length + 1 := by
            rcases hgo with h | h
            · omega
            · exact mul_bound (bd_abs x) (bd_abs y) c0' hv h
          obtain ⟨o, ho, hol2⟩ := has_limb (j := i + k) hob (by omega)
          refine J.region ?_
          first | refine o_q (q_mvv (v := .int _ _) rfl) ?_ | refine o_q (q_mv) ?_
          first | refine o_q (q_mvv (v := .slice _ _ _) rfl) ?_ | refine o_q (q_mv) ?_
          first | refine o_q (q_mvv (v := .int _ _) rfl) ?_ | refine o_q (q_mv) ?_
          first | refine o_q (q_mvv (v := .int _ _) rfl) ?_ | refine o_q (q_mv) ?_
          refine o_q (q_add (c := ((i + k : Nat) : Int)) rfl rfl (by rw [wi64 (by omega)]; omega)) ?_
          refine o_q (q_ia rfl rfl (by omega)) ?_
          refine o_q (q_ld (v := .int .u32 (o : Int)) rfl inferInstance (get_own ho)) ?_
          refine o_q (q_cv (c := (o : Int)) rfl (wu64 (by omega))) ?_
          refine o_q (q_add (c := ((cy + o : Nat) : Int)) rfl rfl (by rw [wu64 (by omega)]; omega)) ?_
          first | refine o_q (q_asv (v := .int _ _) rfl) ?_ | refine o_q (q_as) ?_
          refine JL.nil ?_
          -- cut: kept [2, 3, 4, 5, 6, 8], said [7]
          first | refine J.cutK (α := Nat) (fun s h' L' => s = cy + o + (limbs x.natAbs).getD i 0 * (limbs y.natAbs).getD k 0 ∧ s < 18446744073709551616 ∧ s / Bs < Bs ∧ [(b17, row 78 (u32s out)), (b4, row 37 [.bool false, .slice none 0 0]), (b3, row 37 [.bool (decide (y < 0)), .slice pb (limbs y.natAbs).length cb]), (b2, row 37 [.bool (decide (x < 0)), .slice pa (limbs x.natAbs).length ca])] = L') [(2, .pointer _), (3, .pointer _), (4, .pointer _), (5, .slice _ _ _), (6, .int _ _), (8, .int _ _)] ⟨rfl, rfl, rfl, rfl, rfl, rfl, trivial⟩ (fun s => [(7, .int .u64 (s : Int))]) ?_ ?_ | refine J.cutK (α := Nat) (fun s h' L' => s = cy + o + (limbs x.natAbs).getD i 0 * (limbs y.natAbs).getD k 0 ∧ s < 18446744073709551616 ∧ s / Bs < Bs ∧ [(b17, row 78 (u32s out)), (b4, row 37 [.bool false, .slice none 0 0]), (b3, row 37 [.bool (decide (y < 0)), .slice pb (limbs y.natAbs).length cb]), (b2, row 37 [.bool (decide (x < 0)), .slice pa (limbs x.natAbs).length ca])] = L') [(2, _), (3, _), (4, _), (5, _), (6, _), (8, _)] ⟨rfl, rfl, rfl, rfl, rfl, rfl, trivial⟩ (fun s => [(7, .int .u64 (s : Int))]) ?_ ?_
          ·
            refine J.seq ?_
            refine J.region ?_
            first | refine o_q (q_mvv (v := .int _ _) rfl) ?_ | refine o_q (q_mv) ?_
            refine o_q (q_fa rfl) ?_
            refine o_q (q_ld rfl inferInstance rfl) ?_
            refine o_q (q_len rfl) ?_
            refine o_q (q_lss rfl rfl) ?_
            refine JL.nil ?_
            refine J.condD rfl (fun c2 => ?_) (fun c2 => ?_)
            ·
              refine J.drawA [] ?_
              first | refine JD.calc 0 (by kernel_rfl) rfl trivial ss_sub (q_mvv (v := .int _ _) rfl) ?_ | refine JD.calc 0 (by kernel_rfl) rfl trivial ss_sub (q_mv) ?_
              refine JD.calc 1 (by kernel_rfl) rfl trivial ss_sub (q_fa rfl) ?_
              refine JD.load 2 (by kernel_rfl) rfl trivial (q_ld rfl inferInstance rfl) ?_
              first | refine JD.calc 3 (by kernel_rfl) rfl trivial ss_sub (q_mvv (v := .int _ _) rfl) ?_ | refine JD.calc 3 (by kernel_rfl) rfl trivial ss_sub (q_mv) ?_
              obtain ⟨ku, ou, u, rfl, hu, lu, hcu⟩ := MagAt.limb (j := i) ha (by omega)
              have gu := getD_some hu
              refine JD.calc 4 (by kernel_rfl) rfl trivial ss_sub (q_ia rfl rfl (by omega)) ?_
              refine JD.load 5 (by kernel_rfl) rfl trivial (q_ldf rfl hcu) ?_
              refine JD.calc 6 (by kernel_rfl) rfl trivial ss_sub (q_cv (c := (u : Int)) rfl (wu64 (by omega))) ?_
              refine JD.calc 7 (by kernel_rfl) rfl trivial ss_sub (q_fa rfl) ?_
              refine JD.load 8 (by kernel_rfl) rfl trivial (q_ld rfl inferInstance rfl) ?_
              first | refine JD.calc 9 (by kernel_rfl) rfl trivial ss_sub (q_mvv (v := .int _ _) rfl) ?_ | refine JD.calc 9 (by kernel_rfl) rfl trivial ss_sub (q_mv) ?_
              obtain ⟨kw, ow, w, rfl, hw, lw, hcw⟩ := MagAt.limb (j := k) hb (by omega)
              have gw := getD_some hw
              refine JD.calc 10 (by kernel_rfl) rfl trivial ss_sub (q_ia rfl rfl (by omega)) ?_
              refine JD.load 11 (by kernel_rfl) rfl trivial (q_ldf rfl hcw) ?_
              have hcar := carry_lt hcl hol2 lu lw
              refine JD.calc 12 (by kernel_rfl) rfl trivial ss_sub (q_cv (c := (w : Int)) rfl (wu64 (by omega))) ?_
              refine JD.calc 13 (by kernel_rfl) rfl trivial ss_sub (q_mul (c := ((u * w : Nat) : Int)) rfl rfl (by rw [← Int.natCast_mul, wu64 (by omega)])) ?_
              refine JD.calc 14 (by kernel_rfl) rfl trivial ss_sub (q_add (c := ((cy + o + u * w : Nat) : Int)) rfl rfl (by rw [wu64 (by omega)]; omega)) ?_
              first | refine JD.calc 15 (by kernel_rfl) rfl trivial ss_sub (q_asv (v := .int _ _) rfl) ?_ | refine JD.calc 15 (by kernel_rfl) rfl trivial ss_sub (q_as) ?_
              refine JD.done (by kernel_rfl) ?_ _
              first
                | exact ⟨cy + o + u * w, rfl, ⟨rfl, rfl, rfl, rfl, rfl, rfl, trivial⟩, ⟨rfl, trivial⟩, ⟨by rw [gu, gw], hcar.1, hcar.2, rfl⟩, inferInstance⟩
                | exact ⟨cy + o, rfl, ⟨rfl, rfl, rfl, rfl, rfl, rfl, trivial⟩, ⟨rfl, trivial⟩, ⟨by rw [gy]; rfl, by omega, by have hB : Bs = 4294967296 := rfl; rw [hB]; omega, rfl⟩, inferInstance⟩
            ·
              have gy := getD_none (l := (limbs y.natAbs)) (i := k) (by omega)
              refine J.skip ?_
              first
                | exact ⟨cy + o + u * w, rfl, ⟨rfl, rfl, rfl, rfl, rfl, rfl, trivial⟩, ⟨rfl, trivial⟩, ⟨by rw [gu, gw], hcar.1, hcar.2, rfl⟩, inferInstance⟩
                | exact ⟨cy + o, rfl, ⟨rfl, rfl, rfl, rfl, rfl, rfl, trivial⟩, ⟨rfl, trivial⟩, ⟨by rw [gy]; rfl, by omega, by have hB : Bs = 4294967296 := rfl; rw [hB]; omega, rfl⟩, inferInstance⟩
          ·
            rintro s σ5 h5 L5 s5 ⟨hs, hs1, hs2, rfl⟩
            have hB : Bs = 4294967296 := rfl
            refine J.seq ?_
            refine J.region ?_
            first | refine o_q (q_mvv (v := .slice _ _ _) rfl) ?_ | refine o_q (q_mv) ?_
            first | refine o_q (q_mvv (v := .int _ _) rfl) ?_ | refine o_q (q_mv) ?_
            first | refine o_q (q_mvv (v := .int _ _) rfl) ?_ | refine o_q (q_mv) ?_
            refine o_q (q_add (c := ((i + k : Nat) : Int)) rfl rfl (by rw [wi64 (by omega)]; omega)) ?_
            first | refine o_q (q_mvv (v := .int _ _) rfl) ?_ | refine o_q (q_mv) ?_
            refine o_q (q_cv (c := ((s % 4294967296 : Nat) : Int)) rfl (by rw [IntKind.wrap_u32]; omega)) ?_
            refine o_q (q_ia rfl rfl (by omega)) ?_
            first | refine o_st1 (v := .int _ _) rfl rfl rfl inferInstance (len_own _ _ (by omega)) ?_ | refine o_st1 rfl rfl rfl inferInstance (len_own _ _ (by omega)) ?_
            refine JL.nil ?_
            refine J.region ?_
            first | refine o_q (q_mvv (v := .int _ _) rfl) ?_ | refine o_q (q_mv) ?_
            refine o_q (q_quo (c := ((s / 4294967296 : Nat) : Int)) rfl rfl (by decide) (by rw [td32, wu64 (by omega)])) ?_
            first | refine o_q (q_asv (v := .int _ _) rfl) ?_ | refine o_q (q_as) ?_
            refine JL.nil ?_
            refine J.region ?_
            first | refine o_q (q_mvv (v := .int _ _) rfl) ?_ | refine o_q (q_mv) ?_
            refine o_q (q_add (c := ((k + 1 : Nat) : Int)) rfl rfl (by rw [wi64 (by omega)]; omega)) ?_
            first | refine o_q (q_asv (v := .int _ _) rfl) ?_ | refine o_q (q_as) ?_
            refine JL.nil ?_
            exact ⟨(k + 1, s / 4294967296, out.set (i + k) (s % 4294967296)), rfl, ⟨rfl, rfl, rfl, rfl, rfl, trivial⟩, ⟨rfl, rfl, trivial⟩, ⟨by omega, by omega, by simp [hol], hob.set (Nat.mod_lt _ (by decide)), (by
              have := mul_step (x := (limbs x.natAbs).getD i 0) (y := (limbs y.natAbs).getD k 0) ho hv
              rw [← hs] at this
              rw [val_take_succ, Nat.mul_add]; exact this.trans (Nat.add_assoc _ _ _)), (by rw [← set_own] <;> rfl)⟩, by show (limbs y.natAbs).length + 2 - (k + 1) < (limbs y.natAbs).length + 2 - k; omega, inferInstance⟩
      ·
        rintro out σ8 h8 L8 s8 ⟨hol, hob, hov, rfl⟩
        refine J.region ?_
        first | refine o_q (q_mvv (v := .int _ _) rfl) ?_ | refine o_q (q_mv) ?_
        refine o_q (q_add (c := ((i + 1 : Nat) : Int)) rfl rfl (by rw [wi64 (by omega)]; omega)) ?_
        first | refine o_q (q_asv (v := .int _ _) rfl) ?_ | refine o_q (q_as) ?_
        refine JL.nil ?_
        exact ⟨(i + 1, out), rfl, ⟨rfl, rfl, rfl, rfl, trivial⟩, ⟨rfl, trivial⟩, ⟨by omega, hol, hob, hov, rfl⟩, by show (limbs x.natAbs).length - (i + 1) < (limbs x.natAbs).length - i; omega, inferInstance⟩
    ·
      refine J.exit ?_
      exact ⟨out, rfl, ⟨rfl, rfl, rfl, rfl, trivial⟩, trivial, ⟨hol, hob, (by rw [hov, List.take_of_length_le (by omega)]), rfl⟩, inferInstance⟩
  ·
    rintro out σ9 h9 L9 s9 ⟨hol, hob, hov, rfl⟩
    refine J.seq ?_
    refine J.region ?_
    first | refine o_q (q_mvv (v := .slice _ _ _) rfl) ?_ | refine o_q (q_mv) ?_
    refine o_q (q_fa rfl) ?_
    refine o_q (q_ld rfl inferInstance rfl) ?_
    refine o_q (q_fa rfl) ?_
    refine o_q (q_ld rfl inferInstance rfl) ?_
    refine o_q (q_bne rfl rfl) ?_
    refine JL.fz b17 (fun h10 s10 hb10 => ?_)
    refine o_call (made_fn (MagAt.frozeN hb10 hob hol (Nat.le_refl _)) (by omega)) (fun r h11 s11 hr => ?_)
    rw [hov, val_limbs, val_limbs, mul_sign] at hr
    obtain ⟨pr, cr, rfl, _, hm1⟩ := hr.out
    refine o_stw (vs := [_, _]) rfl rfl rfl inferInstance rfl rfl ?_
    refine JL.nil ?_
    refine J.ret ?_
    exact ret_ok (fn := Try.f54) rfl (.agg rfl inferInstance inferInstance .nil) (IntAt.in hm1)
end Go.Z
end
