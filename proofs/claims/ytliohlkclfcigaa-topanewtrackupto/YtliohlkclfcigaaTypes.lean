/- A part of the proof that TopAnewTrack returns true at every input of bulk at most 1048576: facts about types. -/
import Derived.Test.YtliohlkclfcigaaProg
import Derived.KernelRfl
import Derived.Test.YtliohlkclfcigaaAbsX
set_option linter.unusedVariables false
set_option linter.unusedSimpArgs false
namespace Go.Proofs.Ytliohlkclfcigaa
open Go Go.Abs
theorem ti3 : tinfo Try.prog 3 = some ⟨1, false, (.int .i64), (.int .i64 0), 8⟩ := by kernel_rfl
theorem ti4 : tinfo Try.prog 4 = some ⟨1, false, .bool, (.bool false), 1⟩ := by kernel_rfl
theorem ti5 : tinfo Try.prog 5 = some ⟨1, false, (.int .u8), (.int .u8 0), 1⟩ := by kernel_rfl
theorem ti9 : tinfo Try.prog 9 = some ⟨1, false, .string, (.string .empty), 16⟩ := by kernel_rfl
theorem ti22 : tinfo Try.prog 22 = some ⟨1, false, (.slice 75), (.slice none 0 0), 24⟩ := by kernel_rfl
theorem ti23 : tinfo Try.prog 23 = some ⟨1, false, (.slice 82), (.slice none 0 0), 24⟩ := by kernel_rfl
theorem ti25 : tinfo Try.prog 25 = some ⟨5, true, .struct, (.agg #[(.int .i64 0), (.int .i64 0), (.int .i64 0), (.slice none 0 0), (.slice none 0 0)]), 72⟩ := by kernel_rfl
theorem ti27 : tinfo Try.prog 27 = some ⟨2, true, .struct, (.agg #[(.int .i64 0), (.int .i64 0)]), 16⟩ := by kernel_rfl
theorem ti29 : tinfo Try.prog 29 = some ⟨13, true, .struct, (.agg #[(.int .i64 0), (.int .i64 0), (.int .i64 0), (.int .i64 0), (.int .i64 0), (.int .i64 0), (.int .i64 0), (.int .i64 0), (.int .i64 0), (.int .i64 0), (.int .i64 0), (.int .i64 0), (.int .i64 0)]), 104⟩ := by kernel_rfl
theorem ti31 : tinfo Try.prog 31 = some ⟨25, true, .struct, (.agg #[(.int .i64 0), (.int .i64 0), (.int .i64 0), (.slice none 0 0), (.slice none 0 0), (.int .i64 0), (.int .i64 0), (.int .i64 0), (.int .i64 0), (.int .i64 0), (.int .i64 0), (.int .i64 0), (.int .i64 0), (.int .i64 0), (.int .i64 0), (.int .i64 0), (.int .i64 0), (.int .i64 0), (.int .i64 0), (.int .i64 0), (.int .i64 0), (.int .i64 0), (.int .i64 0), (.int .i64 0), (.int .i64 0)]), 232⟩ := by kernel_rfl
theorem ti32 : tinfo Try.prog 32 = some ⟨1, false, (.slice 3), (.slice none 0 0), 24⟩ := by kernel_rfl
theorem ti33 : tinfo Try.prog 33 = some ⟨1, false, (.slice 9), (.slice none 0 0), 24⟩ := by kernel_rfl
theorem ti35 : tinfo Try.prog 35 = some ⟨2, true, .struct, (.agg #[(.slice none 0 0), (.slice none 0 0)]), 48⟩ := by kernel_rfl
theorem ti62 : tinfo Try.prog 62 = some ⟨1, false, (.slice 114), (.slice none 0 0), 24⟩ := by kernel_rfl
theorem ti75 : tinfo Try.prog 75 = some ⟨6, true, .struct, (.agg #[(.string .empty), (.int .i64 0), (.int .i64 0), (.int .i64 0), (.int .i64 0), (.int .i64 0)]), 56⟩ := by kernel_rfl
theorem ti80 : tinfo Try.prog 80 = some ⟨1, false, (.map 84 4), (.map none), 8⟩ := by kernel_rfl
theorem ti82 : tinfo Try.prog 82 = some ⟨5, true, .struct, (.agg #[(.int .i64 0), (.int .i64 0), (.int .i64 0), (.int .i64 0), (.int .i64 0)]), 40⟩ := by kernel_rfl
theorem ti84 : tinfo Try.prog 84 = some ⟨2, true, .struct, (.agg #[(.int .i64 0), (.int .i64 0)]), 16⟩ := by kernel_rfl
theorem ti86 : tinfo Try.prog 86 = some ⟨1, false, (.pointer 89), (.pointer none), 8⟩ := by kernel_rfl
theorem ti87 : tinfo Try.prog 87 = some ⟨1, false, (.map 132 111), (.map none), 8⟩ := by kernel_rfl
theorem ti89 : tinfo Try.prog 89 = some ⟨7, true, .struct, (.agg #[(.int .i64 0), (.int .i64 0), (.int .i64 0), (.slice none 0 0), (.slice none 0 0), (.slice none 0 0), (.map none)]), 104⟩ := by kernel_rfl
theorem ti92 : tinfo Try.prog 92 = some ⟨1, false, .func, .nilFunc, 8⟩ := by kernel_rfl
theorem ti106 : tinfo Try.prog 106 = some ⟨1, false, (.pointer 27), (.pointer none), 8⟩ := by kernel_rfl
theorem ti107 : tinfo Try.prog 107 = some ⟨6, true, (.array 6 106), (.agg #[(.pointer none), (.pointer none), (.pointer none), (.pointer none), (.pointer none), (.pointer none)]), 48⟩ := by kernel_rfl
theorem ti111 : tinfo Try.prog 111 = some ⟨2, true, .struct, (.agg #[(.int .i64 0), (.int .i64 0)]), 16⟩ := by kernel_rfl
theorem ti114 : tinfo Try.prog 114 = some ⟨2, true, .struct, (.agg #[(.int .i64 0), (.int .i64 0)]), 16⟩ := by kernel_rfl
theorem ti124 : tinfo Try.prog 124 = some ⟨1, false, (.slice 5), (.slice none 0 0), 24⟩ := by kernel_rfl
theorem ti132 : tinfo Try.prog 132 = some ⟨2, true, .struct, (.agg #[(.int .i64 0), (.int .i64 0)]), 16⟩ := by kernel_rfl
theorem ti145 : tinfo Try.prog 145 = some ⟨1, false, .func, .nilFunc, 8⟩ := by kernel_rfl
theorem ti149 : tinfo Try.prog 149 = some ⟨1, false, (.slice 145), (.slice none 0 0), 24⟩ := by kernel_rfl
theorem fo25_0 : fieldOf Try.prog 25 0 = some (0, 3) := by kernel_rfl
theorem fo25_1 : fieldOf Try.prog 25 1 = some (1, 3) := by kernel_rfl
theorem fo25_2 : fieldOf Try.prog 25 2 = some (2, 3) := by kernel_rfl
theorem fo25_3 : fieldOf Try.prog 25 3 = some (3, 22) := by kernel_rfl
theorem fo25_4 : fieldOf Try.prog 25 4 = some (4, 23) := by kernel_rfl
theorem fo27_0 : fieldOf Try.prog 27 0 = some (0, 3) := by kernel_rfl
theorem fo27_1 : fieldOf Try.prog 27 1 = some (1, 3) := by kernel_rfl
theorem fo29_0 : fieldOf Try.prog 29 0 = some (0, 3) := by kernel_rfl
theorem fo29_1 : fieldOf Try.prog 29 1 = some (1, 27) := by kernel_rfl
theorem fo29_2 : fieldOf Try.prog 29 2 = some (3, 27) := by kernel_rfl
theorem fo29_3 : fieldOf Try.prog 29 3 = some (5, 27) := by kernel_rfl
theorem fo29_4 : fieldOf Try.prog 29 4 = some (7, 27) := by kernel_rfl
theorem fo29_5 : fieldOf Try.prog 29 5 = some (9, 27) := by kernel_rfl
theorem fo29_6 : fieldOf Try.prog 29 6 = some (11, 27) := by kernel_rfl
theorem fo31_0 : fieldOf Try.prog 31 0 = some (0, 25) := by kernel_rfl
theorem fo31_1 : fieldOf Try.prog 31 1 = some (5, 3) := by kernel_rfl
theorem fo31_2 : fieldOf Try.prog 31 2 = some (6, 3) := by kernel_rfl
theorem fo31_3 : fieldOf Try.prog 31 3 = some (7, 3) := by kernel_rfl
theorem fo31_4 : fieldOf Try.prog 31 4 = some (8, 3) := by kernel_rfl
theorem fo31_5 : fieldOf Try.prog 31 5 = some (9, 3) := by kernel_rfl
theorem fo31_6 : fieldOf Try.prog 31 6 = some (10, 29) := by kernel_rfl
theorem fo31_7 : fieldOf Try.prog 31 7 = some (23, 3) := by kernel_rfl
theorem fo31_8 : fieldOf Try.prog 31 8 = some (24, 3) := by kernel_rfl
theorem fo35_0 : fieldOf Try.prog 35 0 = some (0, 32) := by kernel_rfl
theorem fo35_1 : fieldOf Try.prog 35 1 = some (1, 33) := by kernel_rfl
theorem fo75_0 : fieldOf Try.prog 75 0 = some (0, 9) := by kernel_rfl
theorem fo75_1 : fieldOf Try.prog 75 1 = some (1, 3) := by kernel_rfl
theorem fo75_2 : fieldOf Try.prog 75 2 = some (2, 3) := by kernel_rfl
theorem fo75_3 : fieldOf Try.prog 75 3 = some (3, 3) := by kernel_rfl
theorem fo75_4 : fieldOf Try.prog 75 4 = some (4, 3) := by kernel_rfl
theorem fo75_5 : fieldOf Try.prog 75 5 = some (5, 3) := by kernel_rfl
theorem fo82_0 : fieldOf Try.prog 82 0 = some (0, 3) := by kernel_rfl
theorem fo82_1 : fieldOf Try.prog 82 1 = some (1, 3) := by kernel_rfl
theorem fo82_2 : fieldOf Try.prog 82 2 = some (2, 3) := by kernel_rfl
theorem fo82_3 : fieldOf Try.prog 82 3 = some (3, 3) := by kernel_rfl
theorem fo82_4 : fieldOf Try.prog 82 4 = some (4, 3) := by kernel_rfl
theorem fo89_0 : fieldOf Try.prog 89 0 = some (0, 25) := by kernel_rfl
theorem fo89_1 : fieldOf Try.prog 89 1 = some (5, 32) := by kernel_rfl
theorem fo89_2 : fieldOf Try.prog 89 2 = some (6, 87) := by kernel_rfl
theorem fo111_0 : fieldOf Try.prog 111 0 = some (0, 27) := by kernel_rfl
theorem fo114_0 : fieldOf Try.prog 114 0 = some (0, 3) := by kernel_rfl
theorem fo114_1 : fieldOf Try.prog 114 1 = some (1, 3) := by kernel_rfl
theorem fo132_0 : fieldOf Try.prog 132 0 = some (0, 3) := by kernel_rfl
theorem fo132_1 : fieldOf Try.prog 132 1 = some (1, 3) := by kernel_rfl
theorem pl7 : places Try.prog 7 = some [(0, 1), (1, 1), (2, 1), (3, 1)] := by kernel_rfl
theorem pl8 : places Try.prog 8 = some [(0, 1), (1, 1), (2, 1), (3, 1)] := by kernel_rfl
theorem pl13 : places Try.prog 13 = some [(0, 1), (1, 1)] := by kernel_rfl
theorem pl14 : places Try.prog 14 = some [(0, 1), (1, 1)] := by kernel_rfl
theorem pl18 : places Try.prog 18 = some [(0, 1)] := by kernel_rfl
theorem pl19 : places Try.prog 19 = some [(0, 1)] := by kernel_rfl
theorem pl24 : places Try.prog 24 = some [(0, 1), (1, 1), (2, 1), (3, 1), (4, 1)] := by kernel_rfl
theorem pl25 : places Try.prog 25 = some [(0, 1), (1, 1), (2, 1), (3, 1), (4, 1)] := by kernel_rfl
theorem pl26 : places Try.prog 26 = some [(0, 1), (1, 1)] := by kernel_rfl
theorem pl27 : places Try.prog 27 = some [(0, 1), (1, 1)] := by kernel_rfl
theorem pl28 : places Try.prog 28 = some [(0, 1), (1, 2), (3, 2), (5, 2), (7, 2), (9, 2), (11, 2)] := by kernel_rfl
theorem pl29 : places Try.prog 29 = some [(0, 1), (1, 2), (3, 2), (5, 2), (7, 2), (9, 2), (11, 2)] := by kernel_rfl
theorem pl84 : places Try.prog 84 = some [(0, 1), (1, 1)] := by kernel_rfl
theorem pl89 : places Try.prog 89 = some [(0, 5), (5, 1), (6, 1)] := by kernel_rfl
theorem pl107 : places Try.prog 107 = some [(0, 1), (1, 1), (2, 1), (3, 1), (4, 1), (5, 1)] := by kernel_rfl
theorem pl111 : places Try.prog 111 = some [(0, 2)] := by kernel_rfl
theorem pl114 : places Try.prog 114 = some [(0, 1), (1, 1)] := by kernel_rfl
theorem pl132 : places Try.prog 132 = some [(0, 1), (1, 1)] := by kernel_rfl
theorem key84 : keyInfo Try.prog 84 = some (true, [(.int .i64), (.int .i64)]) := by kernel_rfl
theorem key132 : keyInfo Try.prog 132 = some (true, [(.int .i64), (.int .i64)]) := by kernel_rfl
end Go.Proofs.Ytliohlkclfcigaa
