/-
  FACTS OF THE SEAT, printed by wip/Gen.lean: types, equality, variables of frames.
-/
import Derived.Test.YtifiajbjfoigcaaGreatAbsOps
import Derived.Test.YtifiajbjfoigcaaGreatChecked
namespace Go.Abs
open Go Go.Proofs
@[simp] theorem ti1 : TI Tryz.prog 1 = some ⟨1, false, [.nilFunc], .other⟩ := by kernel_rfl
@[simp] theorem ti2 : TI Tryz.prog 2 = some ⟨1, false, [.int .i64 0], .int⟩ := by kernel_rfl
@[simp] theorem un2 : Tryz.prog.underlying 2 = some (.int .i64) := by kernel_rfl
@[simp] theorem ti3 : TI Tryz.prog 3 = some ⟨1, false, [.int .i64 0], .int⟩ := by kernel_rfl
@[simp] theorem un3 : Tryz.prog.underlying 3 = some (.int .i64) := by kernel_rfl
@[simp] theorem ti4 : TI Tryz.prog 4 = some ⟨1, false, [.bool false], .bool⟩ := by kernel_rfl
@[simp] theorem un4 : Tryz.prog.underlying 4 = some .bool := by kernel_rfl
@[simp] theorem eg4 : Tryz.prog.eqGuardType Tryz.prog.depth 4 = false := by kernel_rfl
@[simp] theorem ti5 : TI Tryz.prog 5 = some ⟨1, false, [.int .u8 0], .int⟩ := by kernel_rfl
@[simp] theorem un5 : Tryz.prog.underlying 5 = some (.int .u8) := by kernel_rfl
@[simp] theorem ti6 : TI Tryz.prog 6 = some ⟨1, false, [.int .u8 0], .int⟩ := by kernel_rfl
@[simp] theorem un6 : Tryz.prog.underlying 6 = some (.int .u8) := by kernel_rfl
@[simp] theorem ti7 : TI Tryz.prog 7 = some ⟨4, true, [.int .i64 0, .int .i64 0, .bool false, .int .u8 0], .strct [(0, 1), (1, 1), (2, 1), (3, 1)]⟩ := by kernel_rfl
@[simp] theorem es7 : eqShape Tryz.prog 7 = some [(2, 0), (3, 1), (4, 2), (6, 3)] := by kernel_rfl
@[simp] theorem eg7 : Tryz.prog.eqGuardType Tryz.prog.depth 7 = false := by kernel_rfl
@[simp] theorem ti8 : TI Tryz.prog 8 = some ⟨4, true, [.int .i64 0, .int .i64 0, .bool false, .int .u8 0], .strct [(0, 1), (1, 1), (2, 1), (3, 1)]⟩ := by kernel_rfl
@[simp] theorem es8 : eqShape Tryz.prog 8 = some [(2, 0), (3, 1), (4, 2), (6, 3)] := by kernel_rfl
@[simp] theorem eg8 : Tryz.prog.eqGuardType Tryz.prog.depth 8 = false := by kernel_rfl
@[simp] theorem ti9 : TI Tryz.prog 9 = some ⟨1, false, [.string .empty], .str⟩ := by kernel_rfl
@[simp] theorem un9 : Tryz.prog.underlying 9 = some .string := by kernel_rfl
@[simp] theorem ti10 : TI Tryz.prog 10 = some ⟨1, false, [.string .empty], .str⟩ := by kernel_rfl
@[simp] theorem un10 : Tryz.prog.underlying 10 = some .string := by kernel_rfl
@[simp] theorem ti11 : TI Tryz.prog 11 = some ⟨1, false, [.string .empty], .str⟩ := by kernel_rfl
@[simp] theorem un11 : Tryz.prog.underlying 11 = some .string := by kernel_rfl
@[simp] theorem ti12 : TI Tryz.prog 12 = some ⟨1, false, [.int .u64 0], .int⟩ := by kernel_rfl
@[simp] theorem un12 : Tryz.prog.underlying 12 = some (.int .u64) := by kernel_rfl
@[simp] theorem ti13 : TI Tryz.prog 13 = some ⟨2, true, [.string .empty, .int .u64 0], .strct [(0, 1), (1, 1)]⟩ := by kernel_rfl
@[simp] theorem eg13 : Tryz.prog.eqGuardType Tryz.prog.depth 13 = false := by kernel_rfl
@[simp] theorem ti14 : TI Tryz.prog 14 = some ⟨2, true, [.string .empty, .int .u64 0], .strct [(0, 1), (1, 1)]⟩ := by kernel_rfl
@[simp] theorem eg14 : Tryz.prog.eqGuardType Tryz.prog.depth 14 = false := by kernel_rfl
@[simp] theorem ti15 : TI Tryz.prog 15 = some ⟨1, false, [.pointer none], .other⟩ := by kernel_rfl
@[simp] theorem un15 : Tryz.prog.underlying 15 = some (.pointer 118) := by kernel_rfl
@[simp] theorem ti16 : TI Tryz.prog 16 = some ⟨1, false, [.pointer none], .other⟩ := by kernel_rfl
@[simp] theorem un16 : Tryz.prog.underlying 16 = some (.pointer 121) := by kernel_rfl
@[simp] theorem ti17 : TI Tryz.prog 17 = some ⟨1, false, [.pointer none], .other⟩ := by kernel_rfl
@[simp] theorem un17 : Tryz.prog.underlying 17 = some (.pointer 129) := by kernel_rfl
@[simp] theorem ti18 : TI Tryz.prog 18 = some ⟨1, true, [.pointer none], .strct [(0, 1)]⟩ := by kernel_rfl
@[simp] theorem eg18 : Tryz.prog.eqGuardType Tryz.prog.depth 18 = false := by kernel_rfl
@[simp] theorem ti19 : TI Tryz.prog 19 = some ⟨1, true, [.pointer none], .strct [(0, 1)]⟩ := by kernel_rfl
@[simp] theorem eg19 : Tryz.prog.eqGuardType Tryz.prog.depth 19 = false := by kernel_rfl
@[simp] theorem ti20 : TI Tryz.prog 20 = some ⟨1, false, [.nilIface], .other⟩ := by kernel_rfl
@[simp] theorem ti21 : TI Tryz.prog 21 = some ⟨1, false, [.int .i32 0], .int⟩ := by kernel_rfl
@[simp] theorem un21 : Tryz.prog.underlying 21 = some (.int .i32) := by kernel_rfl
@[simp] theorem ti22 : TI Tryz.prog 22 = some ⟨1, false, [.slice none 0 0], .slice 5 1 1⟩ := by kernel_rfl
@[simp] theorem un22 : Tryz.prog.underlying 22 = some (.slice 5) := by kernel_rfl
@[simp] theorem ti23 : TI Tryz.prog 23 = some ⟨1, false, [.nilFunc], .other⟩ := by kernel_rfl
@[simp] theorem ti24 : TI Tryz.prog 24 = some ⟨5, true, [.int .i64 0, .string .empty, .int .i64 0, .int .i64 0, .string .empty], .strct [(0, 1), (1, 1), (2, 1), (3, 1), (4, 1)]⟩ := by kernel_rfl
@[simp] theorem es24 : eqShape Tryz.prog 24 = some [(3, 0), (9, 1), (3, 2), (3, 3), (9, 4)] := by kernel_rfl
@[simp] theorem eg24 : Tryz.prog.eqGuardType Tryz.prog.depth 24 = false := by kernel_rfl
@[simp] theorem ti25 : TI Tryz.prog 25 = some ⟨5, true, [.int .i64 0, .string .empty, .int .i64 0, .int .i64 0, .string .empty], .strct [(0, 1), (1, 1), (2, 1), (3, 1), (4, 1)]⟩ := by kernel_rfl
@[simp] theorem es25 : eqShape Tryz.prog 25 = some [(3, 0), (9, 1), (3, 2), (3, 3), (9, 4)] := by kernel_rfl
@[simp] theorem eg25 : Tryz.prog.eqGuardType Tryz.prog.depth 25 = false := by kernel_rfl
@[simp] theorem ti26 : TI Tryz.prog 26 = some ⟨7, true, [.int .i64 0, .int .i64 0, .int .i64 0, .string .empty, .int .i64 0, .int .i64 0, .string .empty], .strct [(0, 1), (1, 1), (2, 5)]⟩ := by kernel_rfl
@[simp] theorem es26 : eqShape Tryz.prog 26 = some [(3, 0), (3, 1), (25, 2)] := by kernel_rfl
@[simp] theorem eg26 : Tryz.prog.eqGuardType Tryz.prog.depth 26 = false := by kernel_rfl
@[simp] theorem ti27 : TI Tryz.prog 27 = some ⟨7, true, [.int .i64 0, .int .i64 0, .int .i64 0, .string .empty, .int .i64 0, .int .i64 0, .string .empty], .strct [(0, 1), (1, 1), (2, 5)]⟩ := by kernel_rfl
@[simp] theorem es27 : eqShape Tryz.prog 27 = some [(3, 0), (3, 1), (25, 2)] := by kernel_rfl
@[simp] theorem eg27 : Tryz.prog.eqGuardType Tryz.prog.depth 27 = false := by kernel_rfl
@[simp] theorem ti28 : TI Tryz.prog 28 = some ⟨1, false, [.nilFunc], .other⟩ := by kernel_rfl
@[simp] theorem ti29 : TI Tryz.prog 29 = some ⟨1, false, [.nilFunc], .other⟩ := by kernel_rfl
@[simp] theorem ti31 : TI Tryz.prog 31 = some ⟨1, false, [.nilFunc], .other⟩ := by kernel_rfl
@[simp] theorem ti32 : TI Tryz.prog 32 = some ⟨4, true, [.int .i64 0, .int .i64 0, .int .i64 0, .string .empty], .strct [(0, 1), (1, 1), (2, 1), (3, 1)]⟩ := by kernel_rfl
@[simp] theorem es32 : eqShape Tryz.prog 32 = some [(3, 0), (3, 1), (3, 2), (9, 3)] := by kernel_rfl
@[simp] theorem eg32 : Tryz.prog.eqGuardType Tryz.prog.depth 32 = false := by kernel_rfl
@[simp] theorem ti33 : TI Tryz.prog 33 = some ⟨4, true, [.int .i64 0, .int .i64 0, .int .i64 0, .string .empty], .strct [(0, 1), (1, 1), (2, 1), (3, 1)]⟩ := by kernel_rfl
@[simp] theorem es33 : eqShape Tryz.prog 33 = some [(3, 0), (3, 1), (3, 2), (9, 3)] := by kernel_rfl
@[simp] theorem eg33 : Tryz.prog.eqGuardType Tryz.prog.depth 33 = false := by kernel_rfl
@[simp] theorem ti34 : TI Tryz.prog 34 = some ⟨1, false, [.nilFunc], .other⟩ := by kernel_rfl
@[simp] theorem ti36 : TI Tryz.prog 36 = some ⟨1, false, [.nilFunc], .other⟩ := by kernel_rfl
@[simp] theorem ti37 : TI Tryz.prog 37 = some ⟨1, false, [.nilFunc], .other⟩ := by kernel_rfl
@[simp] theorem ti38 : TI Tryz.prog 38 = some ⟨1, false, [.nilFunc], .other⟩ := by kernel_rfl
@[simp] theorem ti39 : TI Tryz.prog 39 = some ⟨1, false, [.nilFunc], .other⟩ := by kernel_rfl
@[simp] theorem ti40 : TI Tryz.prog 40 = some ⟨1, false, [.slice none 0 0], .slice 70 2 24⟩ := by kernel_rfl
@[simp] theorem un40 : Tryz.prog.underlying 40 = some (.slice 70) := by kernel_rfl
@[simp] theorem ti41 : TI Tryz.prog 41 = some ⟨10, true, [.int .i64 0, .int .i64 0, .int .i64 0, .int .i64 0, .int .i64 0, .int .i64 0, .int .i64 0, .bool false, .slice none 0 0, .string .empty], .strct [(0, 1), (1, 1), (2, 1), (3, 1), (4, 1), (5, 1), (6, 1), (7, 1), (8, 1), (9, 1)]⟩ := by kernel_rfl
@[simp] theorem es41 : eqShape Tryz.prog 41 = some [(3, 0), (3, 1), (3, 2), (3, 3), (3, 4), (3, 5), (3, 6), (4, 7), (40, 8), (9, 9)] := by kernel_rfl
@[simp] theorem eg41 : Tryz.prog.eqGuardType Tryz.prog.depth 41 = false := by kernel_rfl
@[simp] theorem ti42 : TI Tryz.prog 42 = some ⟨10, true, [.int .i64 0, .int .i64 0, .int .i64 0, .int .i64 0, .int .i64 0, .int .i64 0, .int .i64 0, .bool false, .slice none 0 0, .string .empty], .strct [(0, 1), (1, 1), (2, 1), (3, 1), (4, 1), (5, 1), (6, 1), (7, 1), (8, 1), (9, 1)]⟩ := by kernel_rfl
@[simp] theorem es42 : eqShape Tryz.prog 42 = some [(3, 0), (3, 1), (3, 2), (3, 3), (3, 4), (3, 5), (3, 6), (4, 7), (40, 8), (9, 9)] := by kernel_rfl
@[simp] theorem eg42 : Tryz.prog.eqGuardType Tryz.prog.depth 42 = false := by kernel_rfl
@[simp] theorem ti44 : TI Tryz.prog 44 = some ⟨1, false, [.nilFunc], .other⟩ := by kernel_rfl
@[simp] theorem ti45 : TI Tryz.prog 45 = some ⟨1, false, [.nilFunc], .other⟩ := by kernel_rfl
@[simp] theorem ti46 : TI Tryz.prog 46 = some ⟨1, false, [.nilFunc], .other⟩ := by kernel_rfl
@[simp] theorem ti47 : TI Tryz.prog 47 = some ⟨1, false, [.nilFunc], .other⟩ := by kernel_rfl
@[simp] theorem ti48 : TI Tryz.prog 48 = some ⟨1, false, [.nilFunc], .other⟩ := by kernel_rfl
@[simp] theorem ti49 : TI Tryz.prog 49 = some ⟨1, false, [.pointer none], .other⟩ := by kernel_rfl
@[simp] theorem un49 : Tryz.prog.underlying 49 = some (.pointer 80) := by kernel_rfl
@[simp] theorem ti50 : TI Tryz.prog 50 = some ⟨1, false, [.nilFunc], .other⟩ := by kernel_rfl
@[simp] theorem ti51 : TI Tryz.prog 51 = some ⟨1, false, [.nilFunc], .other⟩ := by kernel_rfl
@[simp] theorem ti52 : TI Tryz.prog 52 = some ⟨1, false, [.nilFunc], .other⟩ := by kernel_rfl
@[simp] theorem ti53 : TI Tryz.prog 53 = some ⟨1, false, [.nilFunc], .other⟩ := by kernel_rfl
@[simp] theorem ti54 : TI Tryz.prog 54 = some ⟨1, false, [.nilFunc], .other⟩ := by kernel_rfl
@[simp] theorem ti55 : TI Tryz.prog 55 = some ⟨1, false, [.nilFunc], .other⟩ := by kernel_rfl
@[simp] theorem ti56 : TI Tryz.prog 56 = some ⟨1, false, [.pointer none], .other⟩ := by kernel_rfl
@[simp] theorem un56 : Tryz.prog.underlying 56 = some (.pointer 58) := by kernel_rfl
@[simp] theorem ti57 : TI Tryz.prog 57 = some ⟨2, true, [.string .empty, .bool false], .strct [(0, 1), (1, 1)]⟩ := by kernel_rfl
@[simp] theorem es57 : eqShape Tryz.prog 57 = some [(9, 0), (4, 1)] := by kernel_rfl
@[simp] theorem eg57 : Tryz.prog.eqGuardType Tryz.prog.depth 57 = false := by kernel_rfl
@[simp] theorem ti58 : TI Tryz.prog 58 = some ⟨2, true, [.string .empty, .bool false], .strct [(0, 1), (1, 1)]⟩ := by kernel_rfl
@[simp] theorem es58 : eqShape Tryz.prog 58 = some [(9, 0), (4, 1)] := by kernel_rfl
@[simp] theorem eg58 : Tryz.prog.eqGuardType Tryz.prog.depth 58 = false := by kernel_rfl
@[simp] theorem ti59 : TI Tryz.prog 59 = some ⟨1, false, [.nilFunc], .other⟩ := by kernel_rfl
@[simp] theorem ti60 : TI Tryz.prog 60 = some ⟨1, false, [.nilFunc], .other⟩ := by kernel_rfl
@[simp] theorem ti61 : TI Tryz.prog 61 = some ⟨1, false, [.nilFunc], .other⟩ := by kernel_rfl
@[simp] theorem ti62 : TI Tryz.prog 62 = some ⟨1, false, [.nilFunc], .other⟩ := by kernel_rfl
@[simp] theorem ti63 : TI Tryz.prog 63 = some ⟨1, false, [.nilFunc], .other⟩ := by kernel_rfl
@[simp] theorem ti64 : TI Tryz.prog 64 = some ⟨1, false, [.nilFunc], .other⟩ := by kernel_rfl
@[simp] theorem ti65 : TI Tryz.prog 65 = some ⟨1, false, [.nilFunc], .other⟩ := by kernel_rfl
@[simp] theorem ti66 : TI Tryz.prog 66 = some ⟨1, false, [.nilFunc], .other⟩ := by kernel_rfl
@[simp] theorem ti67 : TI Tryz.prog 67 = some ⟨1, false, [.nilFunc], .other⟩ := by kernel_rfl
@[simp] theorem ti68 : TI Tryz.prog 68 = some ⟨1, false, [.nilFunc], .other⟩ := by kernel_rfl
@[simp] theorem ti69 : TI Tryz.prog 69 = some ⟨2, true, [.int .i64 0, .string .empty], .strct [(0, 1), (1, 1)]⟩ := by kernel_rfl
@[simp] theorem es69 : eqShape Tryz.prog 69 = some [(3, 0), (9, 1)] := by kernel_rfl
@[simp] theorem eg69 : Tryz.prog.eqGuardType Tryz.prog.depth 69 = false := by kernel_rfl
@[simp] theorem ti70 : TI Tryz.prog 70 = some ⟨2, true, [.int .i64 0, .string .empty], .strct [(0, 1), (1, 1)]⟩ := by kernel_rfl
@[simp] theorem es70 : eqShape Tryz.prog 70 = some [(3, 0), (9, 1)] := by kernel_rfl
@[simp] theorem eg70 : Tryz.prog.eqGuardType Tryz.prog.depth 70 = false := by kernel_rfl
@[simp] theorem ti71 : TI Tryz.prog 71 = some ⟨1, false, [.nilFunc], .other⟩ := by kernel_rfl
@[simp] theorem ti72 : TI Tryz.prog 72 = some ⟨1, false, [.slice none 0 0], .slice 3 1 8⟩ := by kernel_rfl
@[simp] theorem un72 : Tryz.prog.underlying 72 = some (.slice 3) := by kernel_rfl
@[simp] theorem ti73 : TI Tryz.prog 73 = some ⟨1, false, [.nilFunc], .other⟩ := by kernel_rfl
@[simp] theorem ti74 : TI Tryz.prog 74 = some ⟨1, false, [.nilFunc], .other⟩ := by kernel_rfl
@[simp] theorem ti75 : TI Tryz.prog 75 = some ⟨1, false, [.nilFunc], .other⟩ := by kernel_rfl
@[simp] theorem ti77 : TI Tryz.prog 77 = some ⟨1, false, [.nilFunc], .other⟩ := by kernel_rfl
@[simp] theorem ti78 : TI Tryz.prog 78 = some ⟨1, false, [.nilFunc], .other⟩ := by kernel_rfl
@[simp] theorem ti79 : TI Tryz.prog 79 = some ⟨3, true, [.slice none 0 0, .int .i64 0, .int .i64 0], .strct [(0, 1), (1, 1), (2, 1)]⟩ := by kernel_rfl
@[simp] theorem es79 : eqShape Tryz.prog 79 = some [(22, 0), (3, 1), (3, 2)] := by kernel_rfl
@[simp] theorem eg79 : Tryz.prog.eqGuardType Tryz.prog.depth 79 = false := by kernel_rfl
@[simp] theorem ti80 : TI Tryz.prog 80 = some ⟨3, true, [.slice none 0 0, .int .i64 0, .int .i64 0], .strct [(0, 1), (1, 1), (2, 1)]⟩ := by kernel_rfl
@[simp] theorem es80 : eqShape Tryz.prog 80 = some [(22, 0), (3, 1), (3, 2)] := by kernel_rfl
@[simp] theorem eg80 : Tryz.prog.eqGuardType Tryz.prog.depth 80 = false := by kernel_rfl
@[simp] theorem ti81 : TI Tryz.prog 81 = some ⟨1, false, [.nilFunc], .other⟩ := by kernel_rfl
@[simp] theorem ti82 : TI Tryz.prog 82 = some ⟨1, false, [.nilFunc], .other⟩ := by kernel_rfl
@[simp] theorem ti83 : TI Tryz.prog 83 = some ⟨1, false, [.nilFunc], .other⟩ := by kernel_rfl
@[simp] theorem ti84 : TI Tryz.prog 84 = some ⟨1, false, [.slice none 0 0], .slice 107 2 16⟩ := by kernel_rfl
@[simp] theorem un84 : Tryz.prog.underlying 84 = some (.slice 107) := by kernel_rfl
@[simp] theorem ti86 : TI Tryz.prog 86 = some ⟨1, false, [.nilFunc], .other⟩ := by kernel_rfl
@[simp] theorem ti87 : TI Tryz.prog 87 = some ⟨1, false, [.nilFunc], .other⟩ := by kernel_rfl
@[simp] theorem ti89 : TI Tryz.prog 89 = some ⟨1, false, [.nilFunc], .other⟩ := by kernel_rfl
@[simp] theorem ti90 : TI Tryz.prog 90 = some ⟨1, false, [.nilFunc], .other⟩ := by kernel_rfl
@[simp] theorem ti91 : TI Tryz.prog 91 = some ⟨1, false, [.nilFunc], .other⟩ := by kernel_rfl
@[simp] theorem ti92 : TI Tryz.prog 92 = some ⟨1, false, [.nilFunc], .other⟩ := by kernel_rfl
@[simp] theorem ti93 : TI Tryz.prog 93 = some ⟨1, false, [.nilFunc], .other⟩ := by kernel_rfl
@[simp] theorem ti94 : TI Tryz.prog 94 = some ⟨1, false, [.int .u32 0], .int⟩ := by kernel_rfl
@[simp] theorem un94 : Tryz.prog.underlying 94 = some (.int .u32) := by kernel_rfl
@[simp] theorem ti95 : TI Tryz.prog 95 = some ⟨1, false, [.int .u64 0], .int⟩ := by kernel_rfl
@[simp] theorem un95 : Tryz.prog.underlying 95 = some (.int .u64) := by kernel_rfl
@[simp] theorem ti97 : TI Tryz.prog 97 = some ⟨1, false, [.nilFunc], .other⟩ := by kernel_rfl
@[simp] theorem ti98 : TI Tryz.prog 98 = some ⟨1, false, [.nilFunc], .other⟩ := by kernel_rfl
@[simp] theorem ti99 : TI Tryz.prog 99 = some ⟨1, false, [.nilFunc], .other⟩ := by kernel_rfl
@[simp] theorem ti100 : TI Tryz.prog 100 = some ⟨1, false, [.nilFunc], .other⟩ := by kernel_rfl
@[simp] theorem ti101 : TI Tryz.prog 101 = some ⟨1, false, [.nilFunc], .other⟩ := by kernel_rfl
@[simp] theorem ti102 : TI Tryz.prog 102 = some ⟨1, false, [.slice none 0 0], .slice 9 1 16⟩ := by kernel_rfl
@[simp] theorem un102 : Tryz.prog.underlying 102 = some (.slice 9) := by kernel_rfl
@[simp] theorem ti104 : TI Tryz.prog 104 = some ⟨1, false, [.nilFunc], .other⟩ := by kernel_rfl
@[simp] theorem ti105 : TI Tryz.prog 105 = some ⟨1, false, [.nilFunc], .other⟩ := by kernel_rfl
@[simp] theorem ti106 : TI Tryz.prog 106 = some ⟨2, true, [.int .i64 0, .int .i64 0], .strct [(0, 1), (1, 1)]⟩ := by kernel_rfl
@[simp] theorem es106 : eqShape Tryz.prog 106 = some [(3, 0), (3, 1)] := by kernel_rfl
@[simp] theorem eg106 : Tryz.prog.eqGuardType Tryz.prog.depth 106 = false := by kernel_rfl
@[simp] theorem ti107 : TI Tryz.prog 107 = some ⟨2, true, [.int .i64 0, .int .i64 0], .strct [(0, 1), (1, 1)]⟩ := by kernel_rfl
@[simp] theorem es107 : eqShape Tryz.prog 107 = some [(3, 0), (3, 1)] := by kernel_rfl
@[simp] theorem eg107 : Tryz.prog.eqGuardType Tryz.prog.depth 107 = false := by kernel_rfl
@[simp] theorem ti108 : TI Tryz.prog 108 = some ⟨1, false, [.nilFunc], .other⟩ := by kernel_rfl
@[simp] theorem ti109 : TI Tryz.prog 109 = some ⟨1, false, [.nilFunc], .other⟩ := by kernel_rfl
@[simp] theorem ti110 : TI Tryz.prog 110 = some ⟨1, false, [.nilFunc], .other⟩ := by kernel_rfl
@[simp] theorem ti112 : TI Tryz.prog 112 = some ⟨1, false, [.nilFunc], .other⟩ := by kernel_rfl
@[simp] theorem ti113 : TI Tryz.prog 113 = some ⟨1, false, [.nilFunc], .other⟩ := by kernel_rfl
@[simp] theorem ti114 : TI Tryz.prog 114 = some ⟨1, false, [.nilFunc], .other⟩ := by kernel_rfl
@[simp] theorem ti115 : TI Tryz.prog 115 = some ⟨1, false, [.nilFunc], .other⟩ := by kernel_rfl
@[simp] theorem ti116 : TI Tryz.prog 116 = some ⟨1, false, [.nilFunc], .other⟩ := by kernel_rfl
@[simp] theorem ti117 : TI Tryz.prog 117 = some ⟨4, true, [.pointer none, .pointer none, .pointer none, .string .empty], .strct [(0, 1), (1, 1), (2, 1), (3, 1)]⟩ := by kernel_rfl
@[simp] theorem eg117 : Tryz.prog.eqGuardType Tryz.prog.depth 117 = false := by kernel_rfl
@[simp] theorem ti118 : TI Tryz.prog 118 = some ⟨4, true, [.pointer none, .pointer none, .pointer none, .string .empty], .strct [(0, 1), (1, 1), (2, 1), (3, 1)]⟩ := by kernel_rfl
@[simp] theorem eg118 : Tryz.prog.eqGuardType Tryz.prog.depth 118 = false := by kernel_rfl
@[simp] theorem ti119 : TI Tryz.prog 119 = some ⟨0, true, [], .other⟩ := by kernel_rfl
@[simp] theorem ti120 : TI Tryz.prog 120 = some ⟨0, true, [], .strct [(0, 0)]⟩ := by kernel_rfl
@[simp] theorem eg120 : Tryz.prog.eqGuardType Tryz.prog.depth 120 = false := by kernel_rfl
@[simp] theorem ti121 : TI Tryz.prog 121 = some ⟨0, true, [], .strct [(0, 0)]⟩ := by kernel_rfl
@[simp] theorem eg121 : Tryz.prog.eqGuardType Tryz.prog.depth 121 = false := by kernel_rfl
@[simp] theorem ti122 : TI Tryz.prog 122 = some ⟨1, false, [.int .u8 0], .int⟩ := by kernel_rfl
@[simp] theorem un122 : Tryz.prog.underlying 122 = some (.int .u8) := by kernel_rfl
@[simp] theorem ti123 : TI Tryz.prog 123 = some ⟨1, false, [.int .u8 0], .int⟩ := by kernel_rfl
@[simp] theorem un123 : Tryz.prog.underlying 123 = some (.int .u8) := by kernel_rfl
@[simp] theorem ti124 : TI Tryz.prog 124 = some ⟨1, false, [.nilFunc], .other⟩ := by kernel_rfl
@[simp] theorem ti125 : TI Tryz.prog 125 = some ⟨1, false, [.pointer none], .other⟩ := by kernel_rfl
@[simp] theorem un125 : Tryz.prog.underlying 125 = some (.pointer 5) := by kernel_rfl
@[simp] theorem ti126 : TI Tryz.prog 126 = some ⟨1, false, [.int .i32 0], .int⟩ := by kernel_rfl
@[simp] theorem un126 : Tryz.prog.underlying 126 = some (.int .i32) := by kernel_rfl
@[simp] theorem ti127 : TI Tryz.prog 127 = some ⟨1, false, [.int .i32 0], .int⟩ := by kernel_rfl
@[simp] theorem un127 : Tryz.prog.underlying 127 = some (.int .i32) := by kernel_rfl
@[simp] theorem ti128 : TI Tryz.prog 128 = some ⟨11, true, [.int .u64 0, .int .u64 0, .int .u32 0, .int .u8 0, .int .u8 0, .int .u8 0, .int .u8 0, .nilFunc, .pointer none, .int .i32 0, .int .i32 0], .strct [(0, 1), (1, 1), (2, 1), (3, 1), (4, 1), (5, 1), (6, 1), (7, 1), (8, 1), (9, 1), (10, 1)]⟩ := by kernel_rfl
@[simp] theorem eg128 : Tryz.prog.eqGuardType Tryz.prog.depth 128 = false := by kernel_rfl
@[simp] theorem ti129 : TI Tryz.prog 129 = some ⟨11, true, [.int .u64 0, .int .u64 0, .int .u32 0, .int .u8 0, .int .u8 0, .int .u8 0, .int .u8 0, .nilFunc, .pointer none, .int .i32 0, .int .i32 0], .strct [(0, 1), (1, 1), (2, 1), (3, 1), (4, 1), (5, 1), (6, 1), (7, 1), (8, 1), (9, 1), (10, 1)]⟩ := by kernel_rfl
@[simp] theorem eg129 : Tryz.prog.eqGuardType Tryz.prog.depth 129 = false := by kernel_rfl
@[simp] theorem ti130 : TI Tryz.prog 130 = some ⟨1, false, [.pointer none], .other⟩ := by kernel_rfl
theorem loc2 : localsOf Tryz.f2 = [] := by kernel_rfl
theorem loc3 : localsOf Tryz.f3 = [3, 5, 7, 8, 11, 13, 15] := by kernel_rfl
theorem loc4 : localsOf Tryz.f4 = [] := by kernel_rfl
theorem loc5 : localsOf Tryz.f5 = [2] := by kernel_rfl
theorem loc6 : localsOf Tryz.f6 = [1] := by kernel_rfl
theorem loc7 : localsOf Tryz.f7 = [2, 5] := by kernel_rfl
theorem loc8 : localsOf Tryz.f8 = [2] := by kernel_rfl
theorem loc9 : localsOf Tryz.f9 = [2, 5] := by kernel_rfl
theorem loc10 : localsOf Tryz.f10 = [1] := by kernel_rfl
theorem loc11 : localsOf Tryz.f11 = [1] := by kernel_rfl
theorem loc12 : localsOf Tryz.f12 = [] := by kernel_rfl
theorem loc13 : localsOf Tryz.f13 = [2, 5, 6] := by kernel_rfl
theorem loc14 : localsOf Tryz.f14 = [2] := by kernel_rfl
theorem loc15 : localsOf Tryz.f15 = [1, 8] := by kernel_rfl
theorem loc16 : localsOf Tryz.f16 = [1, 3, 9, 11] := by kernel_rfl
theorem loc17 : localsOf Tryz.f17 = [] := by kernel_rfl
theorem loc18 : localsOf Tryz.f18 = [] := by kernel_rfl
theorem loc19 : localsOf Tryz.f19 = [2, 3] := by kernel_rfl
theorem loc20 : localsOf Tryz.f20 = [] := by kernel_rfl
theorem loc21 : localsOf Tryz.f21 = [] := by kernel_rfl
theorem loc22 : localsOf Tryz.f22 = [1, 3] := by kernel_rfl
theorem loc23 : localsOf Tryz.f23 = [] := by kernel_rfl
theorem loc24 : localsOf Tryz.f24 = [1] := by kernel_rfl
theorem loc25 : localsOf Tryz.f25 = [] := by kernel_rfl
theorem loc26 : localsOf Tryz.f26 = [2, 3] := by kernel_rfl
theorem loc27 : localsOf Tryz.f27 = [2, 3] := by kernel_rfl
theorem loc28 : localsOf Tryz.f28 = [1] := by kernel_rfl
theorem loc29 : localsOf Tryz.f29 = [] := by kernel_rfl
theorem loc30 : localsOf Tryz.f30 = [1] := by kernel_rfl
theorem loc31 : localsOf Tryz.f31 = [2, 3] := by kernel_rfl
theorem loc32 : localsOf Tryz.f32 = [] := by kernel_rfl
theorem loc33 : localsOf Tryz.f33 = [] := by kernel_rfl
theorem loc34 : localsOf Tryz.f34 = [] := by kernel_rfl
theorem loc35 : localsOf Tryz.f35 = [] := by kernel_rfl
theorem loc36 : localsOf Tryz.f36 = [] := by kernel_rfl
theorem loc37 : localsOf Tryz.f37 = [] := by kernel_rfl
theorem loc38 : localsOf Tryz.f38 = [1, 4, 6] := by kernel_rfl
theorem loc39 : localsOf Tryz.f39 = [] := by kernel_rfl
theorem loc40 : localsOf Tryz.f40 = [] := by kernel_rfl
theorem loc41 : localsOf Tryz.f41 = [] := by kernel_rfl
theorem loc42 : localsOf Tryz.f42 = [] := by kernel_rfl
theorem loc43 : localsOf Tryz.f43 = [] := by kernel_rfl
theorem loc44 : localsOf Tryz.f44 = [] := by kernel_rfl
theorem loc45 : localsOf Tryz.f45 = [] := by kernel_rfl
theorem loc46 : localsOf Tryz.f46 = [2, 8] := by kernel_rfl
theorem loc47 : localsOf Tryz.f47 = [2, 6] := by kernel_rfl
theorem loc48 : localsOf Tryz.f48 = [2, 3] := by kernel_rfl
theorem loc49 : localsOf Tryz.f49 = [] := by kernel_rfl
theorem loc50 : localsOf Tryz.f50 = [4, 6] := by kernel_rfl
theorem loc51 : localsOf Tryz.f51 = [] := by kernel_rfl
theorem loc52 : localsOf Tryz.f52 = [] := by kernel_rfl
theorem loc53 : localsOf Tryz.f53 = [1] := by kernel_rfl
theorem loc54 : localsOf Tryz.f54 = [] := by kernel_rfl
theorem loc55 : localsOf Tryz.f55 = [] := by kernel_rfl
theorem loc56 : localsOf Tryz.f56 = [] := by kernel_rfl
theorem loc57 : localsOf Tryz.f57 = [] := by kernel_rfl
theorem loc58 : localsOf Tryz.f58 = [] := by kernel_rfl
theorem loc59 : localsOf Tryz.f59 = [] := by kernel_rfl
theorem loc60 : localsOf Tryz.f60 = [] := by kernel_rfl
theorem loc61 : localsOf Tryz.f61 = [] := by kernel_rfl
theorem loc62 : localsOf Tryz.f62 = [8, 9] := by kernel_rfl
theorem loc63 : localsOf Tryz.f63 = [2] := by kernel_rfl
theorem loc64 : localsOf Tryz.f64 = [] := by kernel_rfl
theorem loc65 : localsOf Tryz.f65 = [] := by kernel_rfl
theorem loc66 : localsOf Tryz.f66 = [] := by kernel_rfl
theorem loc67 : localsOf Tryz.f67 = [] := by kernel_rfl
theorem loc68 : localsOf Tryz.f68 = [] := by kernel_rfl
theorem loc69 : localsOf Tryz.f69 = [2, 3] := by kernel_rfl
theorem loc70 : localsOf Tryz.f70 = [1] := by kernel_rfl
theorem loc71 : localsOf Tryz.f71 = [2, 5] := by kernel_rfl
theorem loc72 : localsOf Tryz.f72 = [] := by kernel_rfl
theorem loc73 : localsOf Tryz.f73 = [] := by kernel_rfl
theorem loc74 : localsOf Tryz.f74 = [1] := by kernel_rfl
theorem loc75 : localsOf Tryz.f75 = [1] := by kernel_rfl
theorem loc76 : localsOf Tryz.f76 = [] := by kernel_rfl
theorem loc77 : localsOf Tryz.f77 = [] := by kernel_rfl
theorem loc78 : localsOf Tryz.f78 = [] := by kernel_rfl
theorem loc79 : localsOf Tryz.f79 = [] := by kernel_rfl
theorem loc80 : localsOf Tryz.f80 = [] := by kernel_rfl
theorem loc81 : localsOf Tryz.f81 = [] := by kernel_rfl
theorem loc82 : localsOf Tryz.f82 = [] := by kernel_rfl
theorem loc83 : localsOf Tryz.f83 = [] := by kernel_rfl
theorem loc84 : localsOf Tryz.f84 = [6] := by kernel_rfl
theorem loc85 : localsOf Tryz.f85 = [] := by kernel_rfl
theorem loc86 : localsOf Tryz.f86 = [8] := by kernel_rfl
theorem loc87 : localsOf Tryz.f87 = [] := by kernel_rfl
theorem loc88 : localsOf Tryz.f88 = [1, 4] := by kernel_rfl
theorem loc89 : localsOf Tryz.f89 = [] := by kernel_rfl
theorem loc90 : localsOf Tryz.f90 = [] := by kernel_rfl
theorem loc91 : localsOf Tryz.f91 = [] := by kernel_rfl
theorem loc92 : localsOf Tryz.f92 = [] := by kernel_rfl
theorem loc93 : localsOf Tryz.f93 = [] := by kernel_rfl
theorem loc94 : localsOf Tryz.f94 = [] := by kernel_rfl
theorem loc95 : localsOf Tryz.f95 = [] := by kernel_rfl
theorem loc96 : localsOf Tryz.f96 = [] := by kernel_rfl
theorem loc97 : localsOf Tryz.f97 = [] := by kernel_rfl
theorem loc98 : localsOf Tryz.f98 = [] := by kernel_rfl
theorem loc99 : localsOf Tryz.f99 = [4] := by kernel_rfl
theorem loc100 : localsOf Tryz.f100 = [] := by kernel_rfl
theorem loc101 : localsOf Tryz.f101 = [] := by kernel_rfl
theorem loc102 : localsOf Tryz.f102 = [] := by kernel_rfl
theorem loc103 : localsOf Tryz.f103 = [] := by kernel_rfl
theorem loc104 : localsOf Tryz.f104 = [] := by kernel_rfl
theorem loc105 : localsOf Tryz.f105 = [] := by kernel_rfl
theorem loc106 : localsOf Tryz.f106 = [] := by kernel_rfl
theorem loc107 : localsOf Tryz.f107 = [] := by kernel_rfl
theorem loc108 : localsOf Tryz.f108 = [] := by kernel_rfl
theorem loc109 : localsOf Tryz.f109 = [] := by kernel_rfl
theorem loc110 : localsOf Tryz.f110 = [] := by kernel_rfl
theorem loc111 : localsOf Tryz.f111 = [] := by kernel_rfl
theorem loc112 : localsOf Tryz.f112 = [] := by kernel_rfl
theorem loc113 : localsOf Tryz.f113 = [] := by kernel_rfl
theorem loc114 : localsOf Tryz.f114 = [] := by kernel_rfl
theorem loc115 : localsOf Tryz.f115 = [] := by kernel_rfl
theorem loc116 : localsOf Tryz.f116 = [] := by kernel_rfl
end Go.Abs
