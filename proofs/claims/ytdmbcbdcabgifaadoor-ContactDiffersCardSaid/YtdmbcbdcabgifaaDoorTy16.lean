/- Facts of the program's types. Conditions: none. -/
import Derived.Test.YtdmbcbdcabgifaaDoorProg
import Derived.Test.YtdmbcbdcabgifaaDoorIdlC
set_option linter.unusedSimpArgs false
set_option linter.unusedVariables false

namespace Go.Idl
open Go

@[go_sem] theorem cells0 : Go.Proofs.Tryd.prog.cellsOf 0 = 1 := by kernel_rfl
@[go_sem] theorem isBld0 : isBld Go.Proofs.Tryd.prog 0 = false := by kernel_rfl
@[go_sem] theorem bytes0 : Go.Proofs.Tryd.prog.bytesOf 0 = 0 := by kernel_rfl
@[go_sem] theorem zero0 : zeroOf Go.Proofs.Tryd.prog 0 = Option.some (Go.Value.tuple #[]) := by kernel_rfl
@[go_sem] theorem cells1 : Go.Proofs.Tryd.prog.cellsOf 1 = 1 := by kernel_rfl
@[go_sem] theorem isBld1 : isBld Go.Proofs.Tryd.prog 1 = false := by kernel_rfl
@[go_sem] theorem bytes1 : Go.Proofs.Tryd.prog.bytesOf 1 = 8 := by kernel_rfl
@[go_sem] theorem zero1 : zeroOf Go.Proofs.Tryd.prog 1 = Option.some Go.Value.nilFunc := by kernel_rfl
@[go_sem] theorem cells2 : Go.Proofs.Tryd.prog.cellsOf 2 = 1 := by kernel_rfl
@[go_sem] theorem isBld2 : isBld Go.Proofs.Tryd.prog 2 = false := by kernel_rfl
@[go_sem] theorem bytes2 : Go.Proofs.Tryd.prog.bytesOf 2 = 8 := by kernel_rfl
@[go_sem] theorem zero2 : zeroOf Go.Proofs.Tryd.prog 2 = Option.some (Go.Value.int Go.IntKind.i64 0) := by kernel_rfl
@[go_sem] theorem cells3 : Go.Proofs.Tryd.prog.cellsOf 3 = 1 := by kernel_rfl
@[go_sem] theorem isBld3 : isBld Go.Proofs.Tryd.prog 3 = false := by kernel_rfl
@[go_sem] theorem bytes3 : Go.Proofs.Tryd.prog.bytesOf 3 = 8 := by kernel_rfl
@[go_sem] theorem zero3 : zeroOf Go.Proofs.Tryd.prog 3 = Option.some (Go.Value.int Go.IntKind.i64 0) := by kernel_rfl
@[go_sem] theorem cells4 : Go.Proofs.Tryd.prog.cellsOf 4 = 1 := by kernel_rfl
@[go_sem] theorem isBld4 : isBld Go.Proofs.Tryd.prog 4 = false := by kernel_rfl
@[go_sem] theorem bytes4 : Go.Proofs.Tryd.prog.bytesOf 4 = 1 := by kernel_rfl
@[go_sem] theorem zero4 : zeroOf Go.Proofs.Tryd.prog 4 = Option.some (Go.Value.bool Bool.false) := by kernel_rfl
@[go_sem] theorem cells5 : Go.Proofs.Tryd.prog.cellsOf 5 = 1 := by kernel_rfl
@[go_sem] theorem isBld5 : isBld Go.Proofs.Tryd.prog 5 = false := by kernel_rfl
@[go_sem] theorem bytes5 : Go.Proofs.Tryd.prog.bytesOf 5 = 1 := by kernel_rfl
@[go_sem] theorem zero5 : zeroOf Go.Proofs.Tryd.prog 5 = Option.some (Go.Value.int Go.IntKind.u8 0) := by kernel_rfl
@[go_sem] theorem cells6 : Go.Proofs.Tryd.prog.cellsOf 6 = 1 := by kernel_rfl
@[go_sem] theorem isBld6 : isBld Go.Proofs.Tryd.prog 6 = false := by kernel_rfl
@[go_sem] theorem bytes6 : Go.Proofs.Tryd.prog.bytesOf 6 = 1 := by kernel_rfl
@[go_sem] theorem zero6 : zeroOf Go.Proofs.Tryd.prog 6 = Option.some (Go.Value.int Go.IntKind.u8 0) := by kernel_rfl
@[go_sem] theorem cells7 : Go.Proofs.Tryd.prog.cellsOf 7 = 4 := by kernel_rfl
@[go_sem] theorem isBld7 : isBld Go.Proofs.Tryd.prog 7 = false := by kernel_rfl
@[go_sem] theorem bytes7 : Go.Proofs.Tryd.prog.bytesOf 7 = 24 := by kernel_rfl
@[go_sem] theorem zero7 : zeroOf Go.Proofs.Tryd.prog 7 = Option.some (Go.Value.agg #[Go.Value.int Go.IntKind.i64 0, Go.Value.int Go.IntKind.i64 0, Go.Value.bool Bool.false, Go.Value.int Go.IntKind.u8 0]) := by kernel_rfl
@[go_sem] theorem cells8 : Go.Proofs.Tryd.prog.cellsOf 8 = 4 := by kernel_rfl
@[go_sem] theorem isBld8 : isBld Go.Proofs.Tryd.prog 8 = false := by kernel_rfl
@[go_sem] theorem bytes8 : Go.Proofs.Tryd.prog.bytesOf 8 = 24 := by kernel_rfl
@[go_sem] theorem zero8 : zeroOf Go.Proofs.Tryd.prog 8 = Option.some (Go.Value.agg #[Go.Value.int Go.IntKind.i64 0, Go.Value.int Go.IntKind.i64 0, Go.Value.bool Bool.false, Go.Value.int Go.IntKind.u8 0]) := by kernel_rfl
@[go_sem] theorem cells9 : Go.Proofs.Tryd.prog.cellsOf 9 = 1 := by kernel_rfl
@[go_sem] theorem isBld9 : isBld Go.Proofs.Tryd.prog 9 = false := by kernel_rfl
@[go_sem] theorem bytes9 : Go.Proofs.Tryd.prog.bytesOf 9 = 16 := by kernel_rfl
@[go_sem] theorem zero9 : zeroOf Go.Proofs.Tryd.prog 9 = Option.some (Go.Value.string { data := #[] }) := by kernel_rfl
@[go_sem] theorem cells10 : Go.Proofs.Tryd.prog.cellsOf 10 = 1 := by kernel_rfl
@[go_sem] theorem isBld10 : isBld Go.Proofs.Tryd.prog 10 = false := by kernel_rfl
@[go_sem] theorem bytes10 : Go.Proofs.Tryd.prog.bytesOf 10 = 16 := by kernel_rfl
@[go_sem] theorem zero10 : zeroOf Go.Proofs.Tryd.prog 10 = Option.some (Go.Value.string { data := #[] }) := by kernel_rfl
@[go_sem] theorem cells11 : Go.Proofs.Tryd.prog.cellsOf 11 = 1 := by kernel_rfl
@[go_sem] theorem isBld11 : isBld Go.Proofs.Tryd.prog 11 = false := by kernel_rfl
@[go_sem] theorem bytes11 : Go.Proofs.Tryd.prog.bytesOf 11 = 16 := by kernel_rfl
@[go_sem] theorem zero11 : zeroOf Go.Proofs.Tryd.prog 11 = Option.some (Go.Value.string { data := #[] }) := by kernel_rfl
@[go_sem] theorem cells12 : Go.Proofs.Tryd.prog.cellsOf 12 = 1 := by kernel_rfl
@[go_sem] theorem isBld12 : isBld Go.Proofs.Tryd.prog 12 = false := by kernel_rfl
@[go_sem] theorem bytes12 : Go.Proofs.Tryd.prog.bytesOf 12 = 8 := by kernel_rfl
@[go_sem] theorem zero12 : zeroOf Go.Proofs.Tryd.prog 12 = Option.some (Go.Value.int Go.IntKind.u64 0) := by kernel_rfl
@[go_sem] theorem cells13 : Go.Proofs.Tryd.prog.cellsOf 13 = 2 := by kernel_rfl
@[go_sem] theorem isBld13 : isBld Go.Proofs.Tryd.prog 13 = false := by kernel_rfl
@[go_sem] theorem bytes13 : Go.Proofs.Tryd.prog.bytesOf 13 = 24 := by kernel_rfl
@[go_sem] theorem zero13 : zeroOf Go.Proofs.Tryd.prog 13 = Option.some (Go.Value.agg #[Go.Value.string { data := #[] }, Go.Value.int Go.IntKind.u64 0]) := by kernel_rfl
@[go_sem] theorem cells14 : Go.Proofs.Tryd.prog.cellsOf 14 = 2 := by kernel_rfl
@[go_sem] theorem isBld14 : isBld Go.Proofs.Tryd.prog 14 = false := by kernel_rfl
@[go_sem] theorem bytes14 : Go.Proofs.Tryd.prog.bytesOf 14 = 24 := by kernel_rfl
@[go_sem] theorem zero14 : zeroOf Go.Proofs.Tryd.prog 14 = Option.some (Go.Value.agg #[Go.Value.string { data := #[] }, Go.Value.int Go.IntKind.u64 0]) := by kernel_rfl
@[go_sem] theorem cells15 : Go.Proofs.Tryd.prog.cellsOf 15 = 1 := by kernel_rfl
@[go_sem] theorem isBld15 : isBld Go.Proofs.Tryd.prog 15 = false := by kernel_rfl
@[go_sem] theorem bytes15 : Go.Proofs.Tryd.prog.bytesOf 15 = 8 := by kernel_rfl
@[go_sem] theorem zero15 : zeroOf Go.Proofs.Tryd.prog 15 = Option.some (Go.Value.pointer Option.none) := by kernel_rfl
@[go_sem] theorem cells16 : Go.Proofs.Tryd.prog.cellsOf 16 = 1 := by kernel_rfl
@[go_sem] theorem isBld16 : isBld Go.Proofs.Tryd.prog 16 = false := by kernel_rfl
@[go_sem] theorem bytes16 : Go.Proofs.Tryd.prog.bytesOf 16 = 8 := by kernel_rfl
@[go_sem] theorem zero16 : zeroOf Go.Proofs.Tryd.prog 16 = Option.some (Go.Value.pointer Option.none) := by kernel_rfl
@[go_sem] theorem cells17 : Go.Proofs.Tryd.prog.cellsOf 17 = 1 := by kernel_rfl
@[go_sem] theorem isBld17 : isBld Go.Proofs.Tryd.prog 17 = false := by kernel_rfl
@[go_sem] theorem bytes17 : Go.Proofs.Tryd.prog.bytesOf 17 = 8 := by kernel_rfl
@[go_sem] theorem zero17 : zeroOf Go.Proofs.Tryd.prog 17 = Option.some (Go.Value.pointer Option.none) := by kernel_rfl
@[go_sem] theorem cells18 : Go.Proofs.Tryd.prog.cellsOf 18 = 1 := by kernel_rfl
@[go_sem] theorem isBld18 : isBld Go.Proofs.Tryd.prog 18 = false := by kernel_rfl
@[go_sem] theorem bytes18 : Go.Proofs.Tryd.prog.bytesOf 18 = 8 := by kernel_rfl
@[go_sem] theorem zero18 : zeroOf Go.Proofs.Tryd.prog 18 = Option.some (Go.Value.agg #[Go.Value.pointer Option.none]) := by kernel_rfl
@[go_sem] theorem cells19 : Go.Proofs.Tryd.prog.cellsOf 19 = 1 := by kernel_rfl
@[go_sem] theorem isBld19 : isBld Go.Proofs.Tryd.prog 19 = false := by kernel_rfl
@[go_sem] theorem bytes19 : Go.Proofs.Tryd.prog.bytesOf 19 = 8 := by kernel_rfl
@[go_sem] theorem zero19 : zeroOf Go.Proofs.Tryd.prog 19 = Option.some (Go.Value.agg #[Go.Value.pointer Option.none]) := by kernel_rfl
@[go_sem] theorem cells20 : Go.Proofs.Tryd.prog.cellsOf 20 = 1 := by kernel_rfl
@[go_sem] theorem isBld20 : isBld Go.Proofs.Tryd.prog 20 = false := by kernel_rfl
@[go_sem] theorem bytes20 : Go.Proofs.Tryd.prog.bytesOf 20 = 16 := by kernel_rfl
@[go_sem] theorem zero20 : zeroOf Go.Proofs.Tryd.prog 20 = Option.some Go.Value.nilIface := by kernel_rfl
@[go_sem] theorem cells21 : Go.Proofs.Tryd.prog.cellsOf 21 = 1 := by kernel_rfl
@[go_sem] theorem isBld21 : isBld Go.Proofs.Tryd.prog 21 = false := by kernel_rfl
@[go_sem] theorem bytes21 : Go.Proofs.Tryd.prog.bytesOf 21 = 4 := by kernel_rfl
@[go_sem] theorem zero21 : zeroOf Go.Proofs.Tryd.prog 21 = Option.some (Go.Value.int Go.IntKind.i32 0) := by kernel_rfl
@[go_sem] theorem cells22 : Go.Proofs.Tryd.prog.cellsOf 22 = 1 := by kernel_rfl
@[go_sem] theorem isBld22 : isBld Go.Proofs.Tryd.prog 22 = false := by kernel_rfl
@[go_sem] theorem bytes22 : Go.Proofs.Tryd.prog.bytesOf 22 = 24 := by kernel_rfl
@[go_sem] theorem zero22 : zeroOf Go.Proofs.Tryd.prog 22 = Option.some (Go.Value.slice Option.none 0 0) := by kernel_rfl
@[go_sem] theorem cells23 : Go.Proofs.Tryd.prog.cellsOf 23 = 8 := by kernel_rfl
@[go_sem] theorem isBld23 : isBld Go.Proofs.Tryd.prog 23 = false := by kernel_rfl
@[go_sem] theorem bytes23 : Go.Proofs.Tryd.prog.bytesOf 23 = 192 := by kernel_rfl
@[go_sem] theorem zero23 : zeroOf Go.Proofs.Tryd.prog 23 = Option.some (Go.Value.agg #[Go.Value.slice Option.none 0 0, Go.Value.slice Option.none 0 0, Go.Value.slice Option.none 0 0, Go.Value.slice Option.none 0 0, Go.Value.slice Option.none 0 0, Go.Value.slice Option.none 0 0, Go.Value.slice Option.none 0 0, Go.Value.slice Option.none 0 0]) := by kernel_rfl
@[go_sem] theorem cells24 : Go.Proofs.Tryd.prog.cellsOf 24 = 8 := by kernel_rfl
@[go_sem] theorem isBld24 : isBld Go.Proofs.Tryd.prog 24 = false := by kernel_rfl
@[go_sem] theorem bytes24 : Go.Proofs.Tryd.prog.bytesOf 24 = 192 := by kernel_rfl
@[go_sem] theorem zero24 : zeroOf Go.Proofs.Tryd.prog 24 = Option.some (Go.Value.agg #[Go.Value.slice Option.none 0 0, Go.Value.slice Option.none 0 0, Go.Value.slice Option.none 0 0, Go.Value.slice Option.none 0 0, Go.Value.slice Option.none 0 0, Go.Value.slice Option.none 0 0, Go.Value.slice Option.none 0 0, Go.Value.slice Option.none 0 0]) := by kernel_rfl
@[go_sem] theorem cells25 : Go.Proofs.Tryd.prog.cellsOf 25 = 1 := by kernel_rfl
@[go_sem] theorem isBld25 : isBld Go.Proofs.Tryd.prog 25 = false := by kernel_rfl
@[go_sem] theorem bytes25 : Go.Proofs.Tryd.prog.bytesOf 25 = 8 := by kernel_rfl
@[go_sem] theorem zero25 : zeroOf Go.Proofs.Tryd.prog 25 = Option.some Go.Value.nilFunc := by kernel_rfl
@[go_sem] theorem cells26 : Go.Proofs.Tryd.prog.cellsOf 26 = 1 := by kernel_rfl
@[go_sem] theorem isBld26 : isBld Go.Proofs.Tryd.prog 26 = false := by kernel_rfl
@[go_sem] theorem bytes26 : Go.Proofs.Tryd.prog.bytesOf 26 = 8 := by kernel_rfl
@[go_sem] theorem zero26 : zeroOf Go.Proofs.Tryd.prog 26 = Option.some Go.Value.nilFunc := by kernel_rfl
@[go_sem] theorem cells27 : Go.Proofs.Tryd.prog.cellsOf 27 = 1 := by kernel_rfl
@[go_sem] theorem isBld27 : isBld Go.Proofs.Tryd.prog 27 = false := by kernel_rfl
@[go_sem] theorem bytes27 : Go.Proofs.Tryd.prog.bytesOf 27 = 8 := by kernel_rfl
@[go_sem] theorem zero27 : zeroOf Go.Proofs.Tryd.prog 27 = Option.some Go.Value.nilFunc := by kernel_rfl
@[go_sem] theorem cells28 : Go.Proofs.Tryd.prog.cellsOf 28 = 1 := by kernel_rfl
@[go_sem] theorem isBld28 : isBld Go.Proofs.Tryd.prog 28 = false := by kernel_rfl
@[go_sem] theorem bytes28 : Go.Proofs.Tryd.prog.bytesOf 28 = 8 := by kernel_rfl
@[go_sem] theorem zero28 : zeroOf Go.Proofs.Tryd.prog 28 = Option.some (Go.Value.int Go.IntKind.i64 0) := by kernel_rfl
@[go_sem] theorem cells29 : Go.Proofs.Tryd.prog.cellsOf 29 = 1 := by kernel_rfl
@[go_sem] theorem isBld29 : isBld Go.Proofs.Tryd.prog 29 = false := by kernel_rfl
@[go_sem] theorem bytes29 : Go.Proofs.Tryd.prog.bytesOf 29 = 0 := by kernel_rfl
@[go_sem] theorem zero29 : zeroOf Go.Proofs.Tryd.prog 29 = Option.some (Go.Value.tuple #[Go.Value.agg #[Go.Value.slice Option.none 0 0, Go.Value.slice Option.none 0 0, Go.Value.slice Option.none 0 0, Go.Value.slice Option.none 0 0, Go.Value.slice Option.none 0 0, Go.Value.slice Option.none 0 0, Go.Value.slice Option.none 0 0, Go.Value.slice Option.none 0 0], Go.Value.int Go.IntKind.i64 0]) := by kernel_rfl
@[go_sem] theorem cells30 : Go.Proofs.Tryd.prog.cellsOf 30 = 1 := by kernel_rfl
@[go_sem] theorem isBld30 : isBld Go.Proofs.Tryd.prog 30 = false := by kernel_rfl
@[go_sem] theorem bytes30 : Go.Proofs.Tryd.prog.bytesOf 30 = 8 := by kernel_rfl
@[go_sem] theorem zero30 : zeroOf Go.Proofs.Tryd.prog 30 = Option.some Go.Value.nilFunc := by kernel_rfl
@[go_sem] theorem cells31 : Go.Proofs.Tryd.prog.cellsOf 31 = 1 := by kernel_rfl
@[go_sem] theorem isBld31 : isBld Go.Proofs.Tryd.prog 31 = false := by kernel_rfl
@[go_sem] theorem bytes31 : Go.Proofs.Tryd.prog.bytesOf 31 = 8 := by kernel_rfl
@[go_sem] theorem zero31 : zeroOf Go.Proofs.Tryd.prog 31 = Option.some Go.Value.nilFunc := by kernel_rfl
@[go_sem] theorem cells32 : Go.Proofs.Tryd.prog.cellsOf 32 = 1 := by kernel_rfl
@[go_sem] theorem isBld32 : isBld Go.Proofs.Tryd.prog 32 = false := by kernel_rfl
@[go_sem] theorem bytes32 : Go.Proofs.Tryd.prog.bytesOf 32 = 8 := by kernel_rfl
@[go_sem] theorem zero32 : zeroOf Go.Proofs.Tryd.prog 32 = Option.some Go.Value.nilFunc := by kernel_rfl
@[go_sem] theorem cells33 : Go.Proofs.Tryd.prog.cellsOf 33 = 1 := by kernel_rfl
@[go_sem] theorem isBld33 : isBld Go.Proofs.Tryd.prog 33 = false := by kernel_rfl
@[go_sem] theorem bytes33 : Go.Proofs.Tryd.prog.bytesOf 33 = 8 := by kernel_rfl
@[go_sem] theorem zero33 : zeroOf Go.Proofs.Tryd.prog 33 = Option.some Go.Value.nilFunc := by kernel_rfl
@[go_sem] theorem cells34 : Go.Proofs.Tryd.prog.cellsOf 34 = 1 := by kernel_rfl
@[go_sem] theorem isBld34 : isBld Go.Proofs.Tryd.prog 34 = false := by kernel_rfl
@[go_sem] theorem bytes34 : Go.Proofs.Tryd.prog.bytesOf 34 = 24 := by kernel_rfl
@[go_sem] theorem zero34 : zeroOf Go.Proofs.Tryd.prog 34 = Option.some (Go.Value.slice Option.none 0 0) := by kernel_rfl
@[go_sem] theorem cells35 : Go.Proofs.Tryd.prog.cellsOf 35 = 1 := by kernel_rfl
@[go_sem] theorem isBld35 : isBld Go.Proofs.Tryd.prog 35 = false := by kernel_rfl
@[go_sem] theorem bytes35 : Go.Proofs.Tryd.prog.bytesOf 35 = 8 := by kernel_rfl
@[go_sem] theorem zero35 : zeroOf Go.Proofs.Tryd.prog 35 = Option.some Go.Value.nilFunc := by kernel_rfl
@[go_sem] theorem cells36 : Go.Proofs.Tryd.prog.cellsOf 36 = 1 := by kernel_rfl
@[go_sem] theorem isBld36 : isBld Go.Proofs.Tryd.prog 36 = false := by kernel_rfl
@[go_sem] theorem bytes36 : Go.Proofs.Tryd.prog.bytesOf 36 = 8 := by kernel_rfl
@[go_sem] theorem zero36 : zeroOf Go.Proofs.Tryd.prog 36 = Option.some Go.Value.nilFunc := by kernel_rfl
@[go_sem] theorem cells37 : Go.Proofs.Tryd.prog.cellsOf 37 = 1 := by kernel_rfl
@[go_sem] theorem isBld37 : isBld Go.Proofs.Tryd.prog 37 = false := by kernel_rfl
@[go_sem] theorem bytes37 : Go.Proofs.Tryd.prog.bytesOf 37 = 8 := by kernel_rfl
@[go_sem] theorem zero37 : zeroOf Go.Proofs.Tryd.prog 37 = Option.some Go.Value.nilFunc := by kernel_rfl
@[go_sem] theorem cells38 : Go.Proofs.Tryd.prog.cellsOf 38 = 1 := by kernel_rfl
@[go_sem] theorem isBld38 : isBld Go.Proofs.Tryd.prog 38 = false := by kernel_rfl
@[go_sem] theorem bytes38 : Go.Proofs.Tryd.prog.bytesOf 38 = 0 := by kernel_rfl
@[go_sem] theorem zero38 : zeroOf Go.Proofs.Tryd.prog 38 = Option.some (Go.Value.tuple #[Go.Value.string { data := #[] }, Go.Value.int Go.IntKind.i64 0]) := by kernel_rfl
@[go_sem] theorem cells39 : Go.Proofs.Tryd.prog.cellsOf 39 = 1 := by kernel_rfl
@[go_sem] theorem isBld39 : isBld Go.Proofs.Tryd.prog 39 = false := by kernel_rfl
@[go_sem] theorem bytes39 : Go.Proofs.Tryd.prog.bytesOf 39 = 8 := by kernel_rfl
@[go_sem] theorem zero39 : zeroOf Go.Proofs.Tryd.prog 39 = Option.some Go.Value.nilFunc := by kernel_rfl
@[go_sem] theorem cells40 : Go.Proofs.Tryd.prog.cellsOf 40 = 1 := by kernel_rfl
@[go_sem] theorem isBld40 : isBld Go.Proofs.Tryd.prog 40 = false := by kernel_rfl
@[go_sem] theorem bytes40 : Go.Proofs.Tryd.prog.bytesOf 40 = 8 := by kernel_rfl
@[go_sem] theorem zero40 : zeroOf Go.Proofs.Tryd.prog 40 = Option.some Go.Value.nilFunc := by kernel_rfl
@[go_sem] theorem cells41 : Go.Proofs.Tryd.prog.cellsOf 41 = 1 := by kernel_rfl
@[go_sem] theorem isBld41 : isBld Go.Proofs.Tryd.prog 41 = false := by kernel_rfl
@[go_sem] theorem bytes41 : Go.Proofs.Tryd.prog.bytesOf 41 = 8 := by kernel_rfl
@[go_sem] theorem zero41 : zeroOf Go.Proofs.Tryd.prog 41 = Option.some Go.Value.nilFunc := by kernel_rfl
@[go_sem] theorem cells42 : Go.Proofs.Tryd.prog.cellsOf 42 = 1 := by kernel_rfl
@[go_sem] theorem isBld42 : isBld Go.Proofs.Tryd.prog 42 = false := by kernel_rfl
@[go_sem] theorem bytes42 : Go.Proofs.Tryd.prog.bytesOf 42 = 8 := by kernel_rfl
@[go_sem] theorem zero42 : zeroOf Go.Proofs.Tryd.prog 42 = Option.some Go.Value.nilFunc := by kernel_rfl
@[go_sem] theorem cells43 : Go.Proofs.Tryd.prog.cellsOf 43 = 1 := by kernel_rfl
@[go_sem] theorem isBld43 : isBld Go.Proofs.Tryd.prog 43 = false := by kernel_rfl
@[go_sem] theorem bytes43 : Go.Proofs.Tryd.prog.bytesOf 43 = 8 := by kernel_rfl
@[go_sem] theorem zero43 : zeroOf Go.Proofs.Tryd.prog 43 = Option.some Go.Value.nilFunc := by kernel_rfl
@[go_sem] theorem cells44 : Go.Proofs.Tryd.prog.cellsOf 44 = 1 := by kernel_rfl
@[go_sem] theorem isBld44 : isBld Go.Proofs.Tryd.prog 44 = false := by kernel_rfl
@[go_sem] theorem bytes44 : Go.Proofs.Tryd.prog.bytesOf 44 = 8 := by kernel_rfl
@[go_sem] theorem zero44 : zeroOf Go.Proofs.Tryd.prog 44 = Option.some Go.Value.nilFunc := by kernel_rfl
@[go_sem] theorem cells45 : Go.Proofs.Tryd.prog.cellsOf 45 = 1 := by kernel_rfl
@[go_sem] theorem isBld45 : isBld Go.Proofs.Tryd.prog 45 = false := by kernel_rfl
@[go_sem] theorem bytes45 : Go.Proofs.Tryd.prog.bytesOf 45 = 8 := by kernel_rfl
@[go_sem] theorem zero45 : zeroOf Go.Proofs.Tryd.prog 45 = Option.some Go.Value.nilFunc := by kernel_rfl
@[go_sem] theorem cells46 : Go.Proofs.Tryd.prog.cellsOf 46 = 1 := by kernel_rfl
@[go_sem] theorem isBld46 : isBld Go.Proofs.Tryd.prog 46 = false := by kernel_rfl
@[go_sem] theorem bytes46 : Go.Proofs.Tryd.prog.bytesOf 46 = 8 := by kernel_rfl
@[go_sem] theorem zero46 : zeroOf Go.Proofs.Tryd.prog 46 = Option.some Go.Value.nilFunc := by kernel_rfl
@[go_sem] theorem cells47 : Go.Proofs.Tryd.prog.cellsOf 47 = 1 := by kernel_rfl
@[go_sem] theorem isBld47 : isBld Go.Proofs.Tryd.prog 47 = false := by kernel_rfl
@[go_sem] theorem bytes47 : Go.Proofs.Tryd.prog.bytesOf 47 = 8 := by kernel_rfl
@[go_sem] theorem zero47 : zeroOf Go.Proofs.Tryd.prog 47 = Option.some Go.Value.nilFunc := by kernel_rfl
@[go_sem] theorem cells48 : Go.Proofs.Tryd.prog.cellsOf 48 = 1 := by kernel_rfl
@[go_sem] theorem isBld48 : isBld Go.Proofs.Tryd.prog 48 = false := by kernel_rfl
@[go_sem] theorem bytes48 : Go.Proofs.Tryd.prog.bytesOf 48 = 8 := by kernel_rfl
@[go_sem] theorem zero48 : zeroOf Go.Proofs.Tryd.prog 48 = Option.some Go.Value.nilFunc := by kernel_rfl
@[go_sem] theorem cells49 : Go.Proofs.Tryd.prog.cellsOf 49 = 1 := by kernel_rfl
@[go_sem] theorem isBld49 : isBld Go.Proofs.Tryd.prog 49 = false := by kernel_rfl
@[go_sem] theorem bytes49 : Go.Proofs.Tryd.prog.bytesOf 49 = 8 := by kernel_rfl
@[go_sem] theorem zero49 : zeroOf Go.Proofs.Tryd.prog 49 = Option.some Go.Value.nilFunc := by kernel_rfl
@[go_sem] theorem cells50 : Go.Proofs.Tryd.prog.cellsOf 50 = 1 := by kernel_rfl
@[go_sem] theorem isBld50 : isBld Go.Proofs.Tryd.prog 50 = false := by kernel_rfl
@[go_sem] theorem bytes50 : Go.Proofs.Tryd.prog.bytesOf 50 = 8 := by kernel_rfl
@[go_sem] theorem zero50 : zeroOf Go.Proofs.Tryd.prog 50 = Option.some (Go.Value.pointer Option.none) := by kernel_rfl
@[go_sem] theorem cells51 : Go.Proofs.Tryd.prog.cellsOf 51 = 1 := by kernel_rfl
@[go_sem] theorem isBld51 : isBld Go.Proofs.Tryd.prog 51 = false := by kernel_rfl
@[go_sem] theorem bytes51 : Go.Proofs.Tryd.prog.bytesOf 51 = 24 := by kernel_rfl
@[go_sem] theorem zero51 : zeroOf Go.Proofs.Tryd.prog 51 = Option.some (Go.Value.slice Option.none 0 0) := by kernel_rfl
@[go_sem] theorem cells52 : Go.Proofs.Tryd.prog.cellsOf 52 = 2 := by kernel_rfl
@[go_sem] theorem isBld52 : isBld Go.Proofs.Tryd.prog 52 = true := by kernel_rfl
@[go_sem] theorem bytes52 : Go.Proofs.Tryd.prog.bytesOf 52 = 32 := by kernel_rfl
@[go_sem] theorem zero52 : zeroOf Go.Proofs.Tryd.prog 52 = Option.some (Go.Value.agg #[Go.Value.pointer Option.none, Go.Value.slice Option.none 0 0]) := by kernel_rfl
@[go_sem] theorem cells53 : Go.Proofs.Tryd.prog.cellsOf 53 = 2 := by kernel_rfl
@[go_sem] theorem isBld53 : isBld Go.Proofs.Tryd.prog 53 = true := by kernel_rfl
@[go_sem] theorem bytes53 : Go.Proofs.Tryd.prog.bytesOf 53 = 32 := by kernel_rfl
@[go_sem] theorem zero53 : zeroOf Go.Proofs.Tryd.prog 53 = Option.some (Go.Value.agg #[Go.Value.pointer Option.none, Go.Value.slice Option.none 0 0]) := by kernel_rfl
@[go_sem] theorem cells54 : Go.Proofs.Tryd.prog.cellsOf 54 = 1 := by kernel_rfl
@[go_sem] theorem isBld54 : isBld Go.Proofs.Tryd.prog 54 = false := by kernel_rfl
@[go_sem] theorem bytes54 : Go.Proofs.Tryd.prog.bytesOf 54 = 16 := by kernel_rfl
@[go_sem] theorem zero54 : zeroOf Go.Proofs.Tryd.prog 54 = Option.some Go.Value.nilIface := by kernel_rfl
@[go_sem] theorem cells55 : Go.Proofs.Tryd.prog.cellsOf 55 = 1 := by kernel_rfl
@[go_sem] theorem isBld55 : isBld Go.Proofs.Tryd.prog 55 = false := by kernel_rfl
@[go_sem] theorem bytes55 : Go.Proofs.Tryd.prog.bytesOf 55 = 16 := by kernel_rfl
@[go_sem] theorem zero55 : zeroOf Go.Proofs.Tryd.prog 55 = Option.some Go.Value.nilIface := by kernel_rfl
@[go_sem] theorem cells56 : Go.Proofs.Tryd.prog.cellsOf 56 = 1 := by kernel_rfl
@[go_sem] theorem isBld56 : isBld Go.Proofs.Tryd.prog 56 = false := by kernel_rfl
@[go_sem] theorem bytes56 : Go.Proofs.Tryd.prog.bytesOf 56 = 0 := by kernel_rfl
@[go_sem] theorem zero56 : zeroOf Go.Proofs.Tryd.prog 56 = Option.some (Go.Value.tuple #[Go.Value.int Go.IntKind.i64 0, Go.Value.nilIface]) := by kernel_rfl
@[go_sem] theorem cells57 : Go.Proofs.Tryd.prog.cellsOf 57 = 1 := by kernel_rfl
@[go_sem] theorem isBld57 : isBld Go.Proofs.Tryd.prog 57 = false := by kernel_rfl
@[go_sem] theorem bytes57 : Go.Proofs.Tryd.prog.bytesOf 57 = 8 := by kernel_rfl
@[go_sem] theorem zero57 : zeroOf Go.Proofs.Tryd.prog 57 = Option.some Go.Value.nilFunc := by kernel_rfl
@[go_sem] theorem cells58 : Go.Proofs.Tryd.prog.cellsOf 58 = 1 := by kernel_rfl
@[go_sem] theorem isBld58 : isBld Go.Proofs.Tryd.prog 58 = false := by kernel_rfl
@[go_sem] theorem bytes58 : Go.Proofs.Tryd.prog.bytesOf 58 = 8 := by kernel_rfl
@[go_sem] theorem zero58 : zeroOf Go.Proofs.Tryd.prog 58 = Option.some Go.Value.nilFunc := by kernel_rfl
@[go_sem] theorem cells59 : Go.Proofs.Tryd.prog.cellsOf 59 = 8 := by kernel_rfl
@[go_sem] theorem isBld59 : isBld Go.Proofs.Tryd.prog 59 = false := by kernel_rfl
@[go_sem] theorem bytes59 : Go.Proofs.Tryd.prog.bytesOf 59 = 128 := by kernel_rfl
@[go_sem] theorem zero59 : zeroOf Go.Proofs.Tryd.prog 59 = Option.some (Go.Value.agg #[Go.Value.string { data := #[] }, Go.Value.string { data := #[] }, Go.Value.string { data := #[] }, Go.Value.string { data := #[] }, Go.Value.string { data := #[] }, Go.Value.string { data := #[] }, Go.Value.string { data := #[] }, Go.Value.string { data := #[] }]) := by kernel_rfl
@[go_sem] theorem cells60 : Go.Proofs.Tryd.prog.cellsOf 60 = 1 := by kernel_rfl
@[go_sem] theorem isBld60 : isBld Go.Proofs.Tryd.prog 60 = false := by kernel_rfl
@[go_sem] theorem bytes60 : Go.Proofs.Tryd.prog.bytesOf 60 = 8 := by kernel_rfl
@[go_sem] theorem zero60 : zeroOf Go.Proofs.Tryd.prog 60 = Option.some Go.Value.nilFunc := by kernel_rfl
@[go_sem] theorem cells61 : Go.Proofs.Tryd.prog.cellsOf 61 = 1 := by kernel_rfl
@[go_sem] theorem isBld61 : isBld Go.Proofs.Tryd.prog 61 = false := by kernel_rfl
@[go_sem] theorem bytes61 : Go.Proofs.Tryd.prog.bytesOf 61 = 8 := by kernel_rfl
@[go_sem] theorem zero61 : zeroOf Go.Proofs.Tryd.prog 61 = Option.some Go.Value.nilFunc := by kernel_rfl
@[go_sem] theorem cells62 : Go.Proofs.Tryd.prog.cellsOf 62 = 1 := by kernel_rfl
@[go_sem] theorem isBld62 : isBld Go.Proofs.Tryd.prog 62 = false := by kernel_rfl
@[go_sem] theorem bytes62 : Go.Proofs.Tryd.prog.bytesOf 62 = 8 := by kernel_rfl
@[go_sem] theorem zero62 : zeroOf Go.Proofs.Tryd.prog 62 = Option.some Go.Value.nilFunc := by kernel_rfl
@[go_sem] theorem cells63 : Go.Proofs.Tryd.prog.cellsOf 63 = 1 := by kernel_rfl
@[go_sem] theorem isBld63 : isBld Go.Proofs.Tryd.prog 63 = false := by kernel_rfl
@[go_sem] theorem bytes63 : Go.Proofs.Tryd.prog.bytesOf 63 = 8 := by kernel_rfl
@[go_sem] theorem zero63 : zeroOf Go.Proofs.Tryd.prog 63 = Option.some Go.Value.nilFunc := by kernel_rfl
@[go_sem] theorem cells64 : Go.Proofs.Tryd.prog.cellsOf 64 = 1 := by kernel_rfl
@[go_sem] theorem isBld64 : isBld Go.Proofs.Tryd.prog 64 = false := by kernel_rfl
@[go_sem] theorem bytes64 : Go.Proofs.Tryd.prog.bytesOf 64 = 8 := by kernel_rfl
@[go_sem] theorem zero64 : zeroOf Go.Proofs.Tryd.prog 64 = Option.some Go.Value.nilFunc := by kernel_rfl
@[go_sem] theorem cells65 : Go.Proofs.Tryd.prog.cellsOf 65 = 1 := by kernel_rfl
@[go_sem] theorem isBld65 : isBld Go.Proofs.Tryd.prog 65 = false := by kernel_rfl
@[go_sem] theorem bytes65 : Go.Proofs.Tryd.prog.bytesOf 65 = 8 := by kernel_rfl
@[go_sem] theorem zero65 : zeroOf Go.Proofs.Tryd.prog 65 = Option.some Go.Value.nilFunc := by kernel_rfl
@[go_sem] theorem cells66 : Go.Proofs.Tryd.prog.cellsOf 66 = 1 := by kernel_rfl
@[go_sem] theorem isBld66 : isBld Go.Proofs.Tryd.prog 66 = false := by kernel_rfl
@[go_sem] theorem bytes66 : Go.Proofs.Tryd.prog.bytesOf 66 = 8 := by kernel_rfl
@[go_sem] theorem zero66 : zeroOf Go.Proofs.Tryd.prog 66 = Option.some Go.Value.nilFunc := by kernel_rfl
@[go_sem] theorem cells67 : Go.Proofs.Tryd.prog.cellsOf 67 = 1 := by kernel_rfl
@[go_sem] theorem isBld67 : isBld Go.Proofs.Tryd.prog 67 = false := by kernel_rfl
@[go_sem] theorem bytes67 : Go.Proofs.Tryd.prog.bytesOf 67 = 8 := by kernel_rfl
@[go_sem] theorem zero67 : zeroOf Go.Proofs.Tryd.prog 67 = Option.some Go.Value.nilFunc := by kernel_rfl
@[go_sem] theorem cells68 : Go.Proofs.Tryd.prog.cellsOf 68 = 1 := by kernel_rfl
@[go_sem] theorem isBld68 : isBld Go.Proofs.Tryd.prog 68 = false := by kernel_rfl
@[go_sem] theorem bytes68 : Go.Proofs.Tryd.prog.bytesOf 68 = 8 := by kernel_rfl
@[go_sem] theorem zero68 : zeroOf Go.Proofs.Tryd.prog 68 = Option.some Go.Value.nilFunc := by kernel_rfl
@[go_sem] theorem cells69 : Go.Proofs.Tryd.prog.cellsOf 69 = 1 := by kernel_rfl
@[go_sem] theorem isBld69 : isBld Go.Proofs.Tryd.prog 69 = false := by kernel_rfl
@[go_sem] theorem bytes69 : Go.Proofs.Tryd.prog.bytesOf 69 = 24 := by kernel_rfl
@[go_sem] theorem zero69 : zeroOf Go.Proofs.Tryd.prog 69 = Option.some (Go.Value.slice Option.none 0 0) := by kernel_rfl
@[go_sem] theorem cells70 : Go.Proofs.Tryd.prog.cellsOf 70 = 1 := by kernel_rfl
@[go_sem] theorem isBld70 : isBld Go.Proofs.Tryd.prog 70 = false := by kernel_rfl
@[go_sem] theorem bytes70 : Go.Proofs.Tryd.prog.bytesOf 70 = 8 := by kernel_rfl
@[go_sem] theorem zero70 : zeroOf Go.Proofs.Tryd.prog 70 = Option.some (Go.Value.pointer Option.none) := by kernel_rfl
@[go_sem] theorem cells71 : Go.Proofs.Tryd.prog.cellsOf 71 = 1 := by kernel_rfl
@[go_sem] theorem isBld71 : isBld Go.Proofs.Tryd.prog 71 = false := by kernel_rfl
@[go_sem] theorem bytes71 : Go.Proofs.Tryd.prog.bytesOf 71 = 8 := by kernel_rfl
@[go_sem] theorem zero71 : zeroOf Go.Proofs.Tryd.prog 71 = Option.some Go.Value.nilFunc := by kernel_rfl
@[go_sem] theorem cells72 : Go.Proofs.Tryd.prog.cellsOf 72 = 1 := by kernel_rfl
@[go_sem] theorem isBld72 : isBld Go.Proofs.Tryd.prog 72 = false := by kernel_rfl
@[go_sem] theorem bytes72 : Go.Proofs.Tryd.prog.bytesOf 72 = 8 := by kernel_rfl
@[go_sem] theorem zero72 : zeroOf Go.Proofs.Tryd.prog 72 = Option.some Go.Value.nilFunc := by kernel_rfl
@[go_sem] theorem cells73 : Go.Proofs.Tryd.prog.cellsOf 73 = 1 := by kernel_rfl
@[go_sem] theorem isBld73 : isBld Go.Proofs.Tryd.prog 73 = false := by kernel_rfl
@[go_sem] theorem bytes73 : Go.Proofs.Tryd.prog.bytesOf 73 = 8 := by kernel_rfl
@[go_sem] theorem zero73 : zeroOf Go.Proofs.Tryd.prog 73 = Option.some Go.Value.nilFunc := by kernel_rfl
@[go_sem] theorem cells74 : Go.Proofs.Tryd.prog.cellsOf 74 = 1 := by kernel_rfl
@[go_sem] theorem isBld74 : isBld Go.Proofs.Tryd.prog 74 = false := by kernel_rfl
@[go_sem] theorem bytes74 : Go.Proofs.Tryd.prog.bytesOf 74 = 8 := by kernel_rfl
@[go_sem] theorem zero74 : zeroOf Go.Proofs.Tryd.prog 74 = Option.some Go.Value.nilFunc := by kernel_rfl
@[go_sem] theorem cells75 : Go.Proofs.Tryd.prog.cellsOf 75 = 1 := by kernel_rfl
@[go_sem] theorem isBld75 : isBld Go.Proofs.Tryd.prog 75 = false := by kernel_rfl
@[go_sem] theorem bytes75 : Go.Proofs.Tryd.prog.bytesOf 75 = 8 := by kernel_rfl
@[go_sem] theorem zero75 : zeroOf Go.Proofs.Tryd.prog 75 = Option.some (Go.Value.int Go.IntKind.u64 0) := by kernel_rfl
@[go_sem] theorem cells76 : Go.Proofs.Tryd.prog.cellsOf 76 = 1 := by kernel_rfl
@[go_sem] theorem isBld76 : isBld Go.Proofs.Tryd.prog 76 = false := by kernel_rfl
@[go_sem] theorem bytes76 : Go.Proofs.Tryd.prog.bytesOf 76 = 8 := by kernel_rfl
@[go_sem] theorem zero76 : zeroOf Go.Proofs.Tryd.prog 76 = Option.some (Go.Value.pointer Option.none) := by kernel_rfl
@[go_sem] theorem cells77 : Go.Proofs.Tryd.prog.cellsOf 77 = 1 := by kernel_rfl
@[go_sem] theorem isBld77 : isBld Go.Proofs.Tryd.prog 77 = false := by kernel_rfl
@[go_sem] theorem bytes77 : Go.Proofs.Tryd.prog.bytesOf 77 = 8 := by kernel_rfl
@[go_sem] theorem zero77 : zeroOf Go.Proofs.Tryd.prog 77 = Option.some Go.Value.nilFunc := by kernel_rfl
@[go_sem] theorem cells78 : Go.Proofs.Tryd.prog.cellsOf 78 = 1 := by kernel_rfl
@[go_sem] theorem isBld78 : isBld Go.Proofs.Tryd.prog 78 = false := by kernel_rfl
@[go_sem] theorem bytes78 : Go.Proofs.Tryd.prog.bytesOf 78 = 8 := by kernel_rfl
@[go_sem] theorem zero78 : zeroOf Go.Proofs.Tryd.prog 78 = Option.some Go.Value.nilFunc := by kernel_rfl
@[go_sem] theorem cells79 : Go.Proofs.Tryd.prog.cellsOf 79 = 1 := by kernel_rfl
@[go_sem] theorem isBld79 : isBld Go.Proofs.Tryd.prog 79 = false := by kernel_rfl
@[go_sem] theorem bytes79 : Go.Proofs.Tryd.prog.bytesOf 79 = 8 := by kernel_rfl
@[go_sem] theorem zero79 : zeroOf Go.Proofs.Tryd.prog 79 = Option.some Go.Value.nilFunc := by kernel_rfl
@[go_sem] theorem cells80 : Go.Proofs.Tryd.prog.cellsOf 80 = 1 := by kernel_rfl
@[go_sem] theorem isBld80 : isBld Go.Proofs.Tryd.prog 80 = false := by kernel_rfl
@[go_sem] theorem bytes80 : Go.Proofs.Tryd.prog.bytesOf 80 = 8 := by kernel_rfl
@[go_sem] theorem zero80 : zeroOf Go.Proofs.Tryd.prog 80 = Option.some (Go.Value.int Go.IntKind.i64 0) := by kernel_rfl
@[go_sem] theorem cells81 : Go.Proofs.Tryd.prog.cellsOf 81 = 1 := by kernel_rfl
@[go_sem] theorem isBld81 : isBld Go.Proofs.Tryd.prog 81 = false := by kernel_rfl
@[go_sem] theorem bytes81 : Go.Proofs.Tryd.prog.bytesOf 81 = 0 := by kernel_rfl
@[go_sem] theorem zero81 : zeroOf Go.Proofs.Tryd.prog 81 = Option.some (Go.Value.tuple #[Go.Value.int Go.IntKind.i64 0, Go.Value.int Go.IntKind.i64 0]) := by kernel_rfl
@[go_sem] theorem cells82 : Go.Proofs.Tryd.prog.cellsOf 82 = 1 := by kernel_rfl
@[go_sem] theorem isBld82 : isBld Go.Proofs.Tryd.prog 82 = false := by kernel_rfl
@[go_sem] theorem bytes82 : Go.Proofs.Tryd.prog.bytesOf 82 = 8 := by kernel_rfl
@[go_sem] theorem zero82 : zeroOf Go.Proofs.Tryd.prog 82 = Option.some Go.Value.nilFunc := by kernel_rfl
@[go_sem] theorem cells83 : Go.Proofs.Tryd.prog.cellsOf 83 = 1 := by kernel_rfl
@[go_sem] theorem isBld83 : isBld Go.Proofs.Tryd.prog 83 = false := by kernel_rfl
@[go_sem] theorem bytes83 : Go.Proofs.Tryd.prog.bytesOf 83 = 8 := by kernel_rfl
@[go_sem] theorem zero83 : zeroOf Go.Proofs.Tryd.prog 83 = Option.some Go.Value.nilFunc := by kernel_rfl
@[go_sem] theorem cells84 : Go.Proofs.Tryd.prog.cellsOf 84 = 1 := by kernel_rfl
@[go_sem] theorem isBld84 : isBld Go.Proofs.Tryd.prog 84 = false := by kernel_rfl
@[go_sem] theorem bytes84 : Go.Proofs.Tryd.prog.bytesOf 84 = 8 := by kernel_rfl
@[go_sem] theorem zero84 : zeroOf Go.Proofs.Tryd.prog 84 = Option.some Go.Value.nilFunc := by kernel_rfl
@[go_sem] theorem cells85 : Go.Proofs.Tryd.prog.cellsOf 85 = 1 := by kernel_rfl
@[go_sem] theorem isBld85 : isBld Go.Proofs.Tryd.prog 85 = false := by kernel_rfl
@[go_sem] theorem bytes85 : Go.Proofs.Tryd.prog.bytesOf 85 = 8 := by kernel_rfl
@[go_sem] theorem zero85 : zeroOf Go.Proofs.Tryd.prog 85 = Option.some Go.Value.nilFunc := by kernel_rfl
@[go_sem] theorem cells86 : Go.Proofs.Tryd.prog.cellsOf 86 = 1 := by kernel_rfl
@[go_sem] theorem isBld86 : isBld Go.Proofs.Tryd.prog 86 = false := by kernel_rfl
@[go_sem] theorem bytes86 : Go.Proofs.Tryd.prog.bytesOf 86 = 0 := by kernel_rfl
@[go_sem] theorem zero86 : zeroOf Go.Proofs.Tryd.prog 86 = Option.some (Go.Value.tuple #[Go.Value.int Go.IntKind.i64 0, Go.Value.bool Bool.false]) := by kernel_rfl
@[go_sem] theorem cells87 : Go.Proofs.Tryd.prog.cellsOf 87 = 1 := by kernel_rfl
@[go_sem] theorem isBld87 : isBld Go.Proofs.Tryd.prog 87 = false := by kernel_rfl
@[go_sem] theorem bytes87 : Go.Proofs.Tryd.prog.bytesOf 87 = 8 := by kernel_rfl
@[go_sem] theorem zero87 : zeroOf Go.Proofs.Tryd.prog 87 = Option.some Go.Value.nilFunc := by kernel_rfl
@[go_sem] theorem cells88 : Go.Proofs.Tryd.prog.cellsOf 88 = 1 := by kernel_rfl
@[go_sem] theorem isBld88 : isBld Go.Proofs.Tryd.prog 88 = false := by kernel_rfl
@[go_sem] theorem bytes88 : Go.Proofs.Tryd.prog.bytesOf 88 = 8 := by kernel_rfl
@[go_sem] theorem zero88 : zeroOf Go.Proofs.Tryd.prog 88 = Option.some Go.Value.nilFunc := by kernel_rfl
@[go_sem] theorem cells89 : Go.Proofs.Tryd.prog.cellsOf 89 = 1 := by kernel_rfl
@[go_sem] theorem isBld89 : isBld Go.Proofs.Tryd.prog 89 = false := by kernel_rfl
@[go_sem] theorem bytes89 : Go.Proofs.Tryd.prog.bytesOf 89 = 4 := by kernel_rfl
@[go_sem] theorem zero89 : zeroOf Go.Proofs.Tryd.prog 89 = Option.some (Go.Value.int Go.IntKind.u32 0) := by kernel_rfl
@[go_sem] theorem cells90 : Go.Proofs.Tryd.prog.cellsOf 90 = 1 := by kernel_rfl
@[go_sem] theorem isBld90 : isBld Go.Proofs.Tryd.prog 90 = false := by kernel_rfl
@[go_sem] theorem bytes90 : Go.Proofs.Tryd.prog.bytesOf 90 = 8 := by kernel_rfl
@[go_sem] theorem zero90 : zeroOf Go.Proofs.Tryd.prog 90 = Option.some Go.Value.nilFunc := by kernel_rfl
@[go_sem] theorem cells91 : Go.Proofs.Tryd.prog.cellsOf 91 = 1 := by kernel_rfl
@[go_sem] theorem isBld91 : isBld Go.Proofs.Tryd.prog 91 = false := by kernel_rfl
@[go_sem] theorem bytes91 : Go.Proofs.Tryd.prog.bytesOf 91 = 8 := by kernel_rfl
@[go_sem] theorem zero91 : zeroOf Go.Proofs.Tryd.prog 91 = Option.some (Go.Value.int Go.IntKind.u64 0) := by kernel_rfl
@[go_sem] theorem cells92 : Go.Proofs.Tryd.prog.cellsOf 92 = 24 := by kernel_rfl
@[go_sem] theorem isBld92 : isBld Go.Proofs.Tryd.prog 92 = false := by kernel_rfl
@[go_sem] theorem bytes92 : Go.Proofs.Tryd.prog.bytesOf 92 = 24 := by kernel_rfl
@[go_sem] theorem zero92 : zeroOf Go.Proofs.Tryd.prog 92 = Option.some (Go.Value.agg #[Go.Value.int Go.IntKind.u8 0, Go.Value.int Go.IntKind.u8 0, Go.Value.int Go.IntKind.u8 0, Go.Value.int Go.IntKind.u8 0, Go.Value.int Go.IntKind.u8 0, Go.Value.int Go.IntKind.u8 0, Go.Value.int Go.IntKind.u8 0, Go.Value.int Go.IntKind.u8 0, Go.Value.int Go.IntKind.u8 0, Go.Value.int Go.IntKind.u8 0, Go.Value.int Go.IntKind.u8 0, Go.Value.int Go.IntKind.u8 0, Go.Value.int Go.IntKind.u8 0, Go.Value.int Go.IntKind.u8 0, Go.Value.int Go.IntKind.u8 0, Go.Value.int Go.IntKind.u8 0, Go.Value.int Go.IntKind.u8 0, Go.Value.int Go.IntKind.u8 0, Go.Value.int Go.IntKind.u8 0, Go.Value.int Go.IntKind.u8 0, Go.Value.int Go.IntKind.u8 0, Go.Value.int Go.IntKind.u8 0, Go.Value.int Go.IntKind.u8 0, Go.Value.int Go.IntKind.u8 0]) := by kernel_rfl
@[go_sem] theorem cells93 : Go.Proofs.Tryd.prog.cellsOf 93 = 1 := by kernel_rfl
@[go_sem] theorem isBld93 : isBld Go.Proofs.Tryd.prog 93 = false := by kernel_rfl
@[go_sem] theorem bytes93 : Go.Proofs.Tryd.prog.bytesOf 93 = 8 := by kernel_rfl
@[go_sem] theorem zero93 : zeroOf Go.Proofs.Tryd.prog 93 = Option.some Go.Value.nilFunc := by kernel_rfl
@[go_sem] theorem cells94 : Go.Proofs.Tryd.prog.cellsOf 94 = 1 := by kernel_rfl
@[go_sem] theorem isBld94 : isBld Go.Proofs.Tryd.prog 94 = false := by kernel_rfl
@[go_sem] theorem bytes94 : Go.Proofs.Tryd.prog.bytesOf 94 = 0 := by kernel_rfl
@[go_sem] theorem zero94 : zeroOf Go.Proofs.Tryd.prog 94 = Option.some (Go.Value.tuple #[Go.Value.slice Option.none 0 0, Go.Value.string { data := #[] }]) := by kernel_rfl
@[go_sem] theorem cells95 : Go.Proofs.Tryd.prog.cellsOf 95 = 1 := by kernel_rfl
@[go_sem] theorem isBld95 : isBld Go.Proofs.Tryd.prog 95 = false := by kernel_rfl
@[go_sem] theorem bytes95 : Go.Proofs.Tryd.prog.bytesOf 95 = 8 := by kernel_rfl
@[go_sem] theorem zero95 : zeroOf Go.Proofs.Tryd.prog 95 = Option.some Go.Value.nilFunc := by kernel_rfl
@[go_sem] theorem cells96 : Go.Proofs.Tryd.prog.cellsOf 96 = 1 := by kernel_rfl
@[go_sem] theorem isBld96 : isBld Go.Proofs.Tryd.prog 96 = false := by kernel_rfl
@[go_sem] theorem bytes96 : Go.Proofs.Tryd.prog.bytesOf 96 = 8 := by kernel_rfl
@[go_sem] theorem zero96 : zeroOf Go.Proofs.Tryd.prog 96 = Option.some (Go.Value.int Go.IntKind.u64 0) := by kernel_rfl
@[go_sem] theorem cells97 : Go.Proofs.Tryd.prog.cellsOf 97 = 1 := by kernel_rfl
@[go_sem] theorem isBld97 : isBld Go.Proofs.Tryd.prog 97 = false := by kernel_rfl
@[go_sem] theorem bytes97 : Go.Proofs.Tryd.prog.bytesOf 97 = 8 := by kernel_rfl
@[go_sem] theorem zero97 : zeroOf Go.Proofs.Tryd.prog 97 = Option.some Go.Value.nilFunc := by kernel_rfl
@[go_sem] theorem cells98 : Go.Proofs.Tryd.prog.cellsOf 98 = 1 := by kernel_rfl
@[go_sem] theorem isBld98 : isBld Go.Proofs.Tryd.prog 98 = false := by kernel_rfl
@[go_sem] theorem bytes98 : Go.Proofs.Tryd.prog.bytesOf 98 = 8 := by kernel_rfl
@[go_sem] theorem zero98 : zeroOf Go.Proofs.Tryd.prog 98 = Option.some Go.Value.nilFunc := by kernel_rfl
@[go_sem] theorem cells99 : Go.Proofs.Tryd.prog.cellsOf 99 = 1 := by kernel_rfl
@[go_sem] theorem isBld99 : isBld Go.Proofs.Tryd.prog 99 = false := by kernel_rfl
@[go_sem] theorem bytes99 : Go.Proofs.Tryd.prog.bytesOf 99 = 8 := by kernel_rfl
@[go_sem] theorem zero99 : zeroOf Go.Proofs.Tryd.prog 99 = Option.some Go.Value.nilFunc := by kernel_rfl
@[go_sem] theorem cells100 : Go.Proofs.Tryd.prog.cellsOf 100 = 1 := by kernel_rfl
@[go_sem] theorem isBld100 : isBld Go.Proofs.Tryd.prog 100 = false := by kernel_rfl
@[go_sem] theorem bytes100 : Go.Proofs.Tryd.prog.bytesOf 100 = 8 := by kernel_rfl
@[go_sem] theorem zero100 : zeroOf Go.Proofs.Tryd.prog 100 = Option.some (Go.Value.pointer Option.none) := by kernel_rfl
@[go_sem] theorem cells101 : Go.Proofs.Tryd.prog.cellsOf 101 = 1 := by kernel_rfl
@[go_sem] theorem isBld101 : isBld Go.Proofs.Tryd.prog 101 = false := by kernel_rfl
@[go_sem] theorem bytes101 : Go.Proofs.Tryd.prog.bytesOf 101 = 8 := by kernel_rfl
@[go_sem] theorem zero101 : zeroOf Go.Proofs.Tryd.prog 101 = Option.some Go.Value.nilFunc := by kernel_rfl
@[go_sem] theorem cells102 : Go.Proofs.Tryd.prog.cellsOf 102 = 1 := by kernel_rfl
@[go_sem] theorem isBld102 : isBld Go.Proofs.Tryd.prog 102 = false := by kernel_rfl
@[go_sem] theorem bytes102 : Go.Proofs.Tryd.prog.bytesOf 102 = 8 := by kernel_rfl
@[go_sem] theorem zero102 : zeroOf Go.Proofs.Tryd.prog 102 = Option.some Go.Value.nilFunc := by kernel_rfl
@[go_sem] theorem cells103 : Go.Proofs.Tryd.prog.cellsOf 103 = 20 := by kernel_rfl
@[go_sem] theorem isBld103 : isBld Go.Proofs.Tryd.prog 103 = false := by kernel_rfl
@[go_sem] theorem bytes103 : Go.Proofs.Tryd.prog.bytesOf 103 = 160 := by kernel_rfl
@[go_sem] theorem zero103 : zeroOf Go.Proofs.Tryd.prog 103 = Option.some (Go.Value.agg #[Go.Value.int Go.IntKind.u64 0, Go.Value.int Go.IntKind.u64 0, Go.Value.int Go.IntKind.u64 0, Go.Value.int Go.IntKind.u64 0, Go.Value.int Go.IntKind.u64 0, Go.Value.int Go.IntKind.u64 0, Go.Value.int Go.IntKind.u64 0, Go.Value.int Go.IntKind.u64 0, Go.Value.int Go.IntKind.u64 0, Go.Value.int Go.IntKind.u64 0, Go.Value.int Go.IntKind.u64 0, Go.Value.int Go.IntKind.u64 0, Go.Value.int Go.IntKind.u64 0, Go.Value.int Go.IntKind.u64 0, Go.Value.int Go.IntKind.u64 0, Go.Value.int Go.IntKind.u64 0, Go.Value.int Go.IntKind.u64 0, Go.Value.int Go.IntKind.u64 0, Go.Value.int Go.IntKind.u64 0, Go.Value.int Go.IntKind.u64 0]) := by kernel_rfl
@[go_sem] theorem cells104 : Go.Proofs.Tryd.prog.cellsOf 104 = 65 := by kernel_rfl
@[go_sem] theorem isBld104 : isBld Go.Proofs.Tryd.prog 104 = false := by kernel_rfl
@[go_sem] theorem bytes104 : Go.Proofs.Tryd.prog.bytesOf 104 = 65 := by kernel_rfl
@[go_sem] theorem zero104 : zeroOf Go.Proofs.Tryd.prog 104 = Option.some (Go.Value.agg ([Go.Value.int Go.IntKind.u8 0, Go.Value.int Go.IntKind.u8 0, Go.Value.int Go.IntKind.u8 0, Go.Value.int Go.IntKind.u8 0, Go.Value.int Go.IntKind.u8 0, Go.Value.int Go.IntKind.u8 0, Go.Value.int Go.IntKind.u8 0, Go.Value.int Go.IntKind.u8 0, Go.Value.int Go.IntKind.u8 0, Go.Value.int Go.IntKind.u8 0, Go.Value.int Go.IntKind.u8 0, Go.Value.int Go.IntKind.u8 0, Go.Value.int Go.IntKind.u8 0, Go.Value.int Go.IntKind.u8 0, Go.Value.int Go.IntKind.u8 0, Go.Value.int Go.IntKind.u8 0, Go.Value.int Go.IntKind.u8 0, Go.Value.int Go.IntKind.u8 0, Go.Value.int Go.IntKind.u8 0, Go.Value.int Go.IntKind.u8 0, Go.Value.int Go.IntKind.u8 0, Go.Value.int Go.IntKind.u8 0, Go.Value.int Go.IntKind.u8 0, Go.Value.int Go.IntKind.u8 0, Go.Value.int Go.IntKind.u8 0, Go.Value.int Go.IntKind.u8 0, Go.Value.int Go.IntKind.u8 0, Go.Value.int Go.IntKind.u8 0, Go.Value.int Go.IntKind.u8 0, Go.Value.int Go.IntKind.u8 0, Go.Value.int Go.IntKind.u8 0, Go.Value.int Go.IntKind.u8 0].append [Go.Value.int Go.IntKind.u8 0, Go.Value.int Go.IntKind.u8 0, Go.Value.int Go.IntKind.u8 0, Go.Value.int Go.IntKind.u8 0, Go.Value.int Go.IntKind.u8 0, Go.Value.int Go.IntKind.u8 0, Go.Value.int Go.IntKind.u8 0, Go.Value.int Go.IntKind.u8 0, Go.Value.int Go.IntKind.u8 0, Go.Value.int Go.IntKind.u8 0, Go.Value.int Go.IntKind.u8 0, Go.Value.int Go.IntKind.u8 0, Go.Value.int Go.IntKind.u8 0, Go.Value.int Go.IntKind.u8 0, Go.Value.int Go.IntKind.u8 0, Go.Value.int Go.IntKind.u8 0, Go.Value.int Go.IntKind.u8 0, Go.Value.int Go.IntKind.u8 0, Go.Value.int Go.IntKind.u8 0, Go.Value.int Go.IntKind.u8 0, Go.Value.int Go.IntKind.u8 0, Go.Value.int Go.IntKind.u8 0, Go.Value.int Go.IntKind.u8 0, Go.Value.int Go.IntKind.u8 0, Go.Value.int Go.IntKind.u8 0, Go.Value.int Go.IntKind.u8 0, Go.Value.int Go.IntKind.u8 0, Go.Value.int Go.IntKind.u8 0, Go.Value.int Go.IntKind.u8 0, Go.Value.int Go.IntKind.u8 0, Go.Value.int Go.IntKind.u8 0, Go.Value.int Go.IntKind.u8 0, Go.Value.int Go.IntKind.u8 0]).toArray) := by kernel_rfl
@[go_sem] theorem cells105 : Go.Proofs.Tryd.prog.cellsOf 105 = 1 := by kernel_rfl
@[go_sem] theorem isBld105 : isBld Go.Proofs.Tryd.prog 105 = false := by kernel_rfl
@[go_sem] theorem bytes105 : Go.Proofs.Tryd.prog.bytesOf 105 = 8 := by kernel_rfl
@[go_sem] theorem zero105 : zeroOf Go.Proofs.Tryd.prog 105 = Option.some Go.Value.nilFunc := by kernel_rfl
@[go_sem] theorem cells106 : Go.Proofs.Tryd.prog.cellsOf 106 = 1 := by kernel_rfl
@[go_sem] theorem isBld106 : isBld Go.Proofs.Tryd.prog 106 = false := by kernel_rfl
@[go_sem] theorem bytes106 : Go.Proofs.Tryd.prog.bytesOf 106 = 8 := by kernel_rfl
@[go_sem] theorem zero106 : zeroOf Go.Proofs.Tryd.prog 106 = Option.some (Go.Value.pointer Option.none) := by kernel_rfl
@[go_sem] theorem cells107 : Go.Proofs.Tryd.prog.cellsOf 107 = 1 := by kernel_rfl
@[go_sem] theorem isBld107 : isBld Go.Proofs.Tryd.prog 107 = false := by kernel_rfl
@[go_sem] theorem bytes107 : Go.Proofs.Tryd.prog.bytesOf 107 = 0 := by kernel_rfl
@[go_sem] theorem zero107 : zeroOf Go.Proofs.Tryd.prog 107 = Option.some (Go.Value.tuple #[Go.Value.int Go.IntKind.i64 0, Go.Value.int Go.IntKind.i64 0]) := by kernel_rfl
@[go_sem] theorem cells108 : Go.Proofs.Tryd.prog.cellsOf 108 = 1 := by kernel_rfl
@[go_sem] theorem isBld108 : isBld Go.Proofs.Tryd.prog 108 = false := by kernel_rfl
@[go_sem] theorem bytes108 : Go.Proofs.Tryd.prog.bytesOf 108 = 8 := by kernel_rfl
@[go_sem] theorem zero108 : zeroOf Go.Proofs.Tryd.prog 108 = Option.some Go.Value.nilFunc := by kernel_rfl
@[go_sem] theorem cells109 : Go.Proofs.Tryd.prog.cellsOf 109 = 32 := by kernel_rfl
@[go_sem] theorem isBld109 : isBld Go.Proofs.Tryd.prog 109 = false := by kernel_rfl
@[go_sem] theorem bytes109 : Go.Proofs.Tryd.prog.bytesOf 109 = 32 := by kernel_rfl
@[go_sem] theorem zero109 : zeroOf Go.Proofs.Tryd.prog 109 = Option.some (Go.Value.agg #[Go.Value.int Go.IntKind.u8 0, Go.Value.int Go.IntKind.u8 0, Go.Value.int Go.IntKind.u8 0, Go.Value.int Go.IntKind.u8 0, Go.Value.int Go.IntKind.u8 0, Go.Value.int Go.IntKind.u8 0, Go.Value.int Go.IntKind.u8 0, Go.Value.int Go.IntKind.u8 0, Go.Value.int Go.IntKind.u8 0, Go.Value.int Go.IntKind.u8 0, Go.Value.int Go.IntKind.u8 0, Go.Value.int Go.IntKind.u8 0, Go.Value.int Go.IntKind.u8 0, Go.Value.int Go.IntKind.u8 0, Go.Value.int Go.IntKind.u8 0, Go.Value.int Go.IntKind.u8 0, Go.Value.int Go.IntKind.u8 0, Go.Value.int Go.IntKind.u8 0, Go.Value.int Go.IntKind.u8 0, Go.Value.int Go.IntKind.u8 0, Go.Value.int Go.IntKind.u8 0, Go.Value.int Go.IntKind.u8 0, Go.Value.int Go.IntKind.u8 0, Go.Value.int Go.IntKind.u8 0, Go.Value.int Go.IntKind.u8 0, Go.Value.int Go.IntKind.u8 0, Go.Value.int Go.IntKind.u8 0, Go.Value.int Go.IntKind.u8 0, Go.Value.int Go.IntKind.u8 0, Go.Value.int Go.IntKind.u8 0, Go.Value.int Go.IntKind.u8 0, Go.Value.int Go.IntKind.u8 0]) := by kernel_rfl
@[go_sem] theorem cells110 : Go.Proofs.Tryd.prog.cellsOf 110 = 64 := by kernel_rfl
@[go_sem] theorem isBld110 : isBld Go.Proofs.Tryd.prog 110 = false := by kernel_rfl
@[go_sem] theorem bytes110 : Go.Proofs.Tryd.prog.bytesOf 110 = 64 := by kernel_rfl
@[go_sem] theorem zero110 : zeroOf Go.Proofs.Tryd.prog 110 = Option.some (Go.Value.agg #[Go.Value.int Go.IntKind.u8 0, Go.Value.int Go.IntKind.u8 0, Go.Value.int Go.IntKind.u8 0, Go.Value.int Go.IntKind.u8 0, Go.Value.int Go.IntKind.u8 0, Go.Value.int Go.IntKind.u8 0, Go.Value.int Go.IntKind.u8 0, Go.Value.int Go.IntKind.u8 0, Go.Value.int Go.IntKind.u8 0, Go.Value.int Go.IntKind.u8 0, Go.Value.int Go.IntKind.u8 0, Go.Value.int Go.IntKind.u8 0, Go.Value.int Go.IntKind.u8 0, Go.Value.int Go.IntKind.u8 0, Go.Value.int Go.IntKind.u8 0, Go.Value.int Go.IntKind.u8 0, Go.Value.int Go.IntKind.u8 0, Go.Value.int Go.IntKind.u8 0, Go.Value.int Go.IntKind.u8 0, Go.Value.int Go.IntKind.u8 0, Go.Value.int Go.IntKind.u8 0, Go.Value.int Go.IntKind.u8 0, Go.Value.int Go.IntKind.u8 0, Go.Value.int Go.IntKind.u8 0, Go.Value.int Go.IntKind.u8 0, Go.Value.int Go.IntKind.u8 0, Go.Value.int Go.IntKind.u8 0, Go.Value.int Go.IntKind.u8 0, Go.Value.int Go.IntKind.u8 0, Go.Value.int Go.IntKind.u8 0, Go.Value.int Go.IntKind.u8 0, Go.Value.int Go.IntKind.u8 0, Go.Value.int Go.IntKind.u8 0, Go.Value.int Go.IntKind.u8 0, Go.Value.int Go.IntKind.u8 0, Go.Value.int Go.IntKind.u8 0, Go.Value.int Go.IntKind.u8 0, Go.Value.int Go.IntKind.u8 0, Go.Value.int Go.IntKind.u8 0, Go.Value.int Go.IntKind.u8 0, Go.Value.int Go.IntKind.u8 0, Go.Value.int Go.IntKind.u8 0, Go.Value.int Go.IntKind.u8 0, Go.Value.int Go.IntKind.u8 0, Go.Value.int Go.IntKind.u8 0, Go.Value.int Go.IntKind.u8 0, Go.Value.int Go.IntKind.u8 0, Go.Value.int Go.IntKind.u8 0, Go.Value.int Go.IntKind.u8 0, Go.Value.int Go.IntKind.u8 0, Go.Value.int Go.IntKind.u8 0, Go.Value.int Go.IntKind.u8 0, Go.Value.int Go.IntKind.u8 0, Go.Value.int Go.IntKind.u8 0, Go.Value.int Go.IntKind.u8 0, Go.Value.int Go.IntKind.u8 0, Go.Value.int Go.IntKind.u8 0, Go.Value.int Go.IntKind.u8 0, Go.Value.int Go.IntKind.u8 0, Go.Value.int Go.IntKind.u8 0, Go.Value.int Go.IntKind.u8 0, Go.Value.int Go.IntKind.u8 0, Go.Value.int Go.IntKind.u8 0, Go.Value.int Go.IntKind.u8 0]) := by kernel_rfl
@[go_sem] theorem cells111 : Go.Proofs.Tryd.prog.cellsOf 111 = 4 := by kernel_rfl
@[go_sem] theorem isBld111 : isBld Go.Proofs.Tryd.prog 111 = false := by kernel_rfl
@[go_sem] theorem bytes111 : Go.Proofs.Tryd.prog.bytesOf 111 = 40 := by kernel_rfl
@[go_sem] theorem zero111 : zeroOf Go.Proofs.Tryd.prog 111 = Option.some (Go.Value.agg #[Go.Value.pointer Option.none, Go.Value.pointer Option.none, Go.Value.pointer Option.none, Go.Value.string { data := #[] }]) := by kernel_rfl
@[go_sem] theorem cells112 : Go.Proofs.Tryd.prog.cellsOf 112 = 4 := by kernel_rfl
@[go_sem] theorem isBld112 : isBld Go.Proofs.Tryd.prog 112 = false := by kernel_rfl
@[go_sem] theorem bytes112 : Go.Proofs.Tryd.prog.bytesOf 112 = 40 := by kernel_rfl
@[go_sem] theorem zero112 : zeroOf Go.Proofs.Tryd.prog 112 = Option.some (Go.Value.agg #[Go.Value.pointer Option.none, Go.Value.pointer Option.none, Go.Value.pointer Option.none, Go.Value.string { data := #[] }]) := by kernel_rfl
@[go_sem] theorem cells113 : Go.Proofs.Tryd.prog.cellsOf 113 = 0 := by kernel_rfl
@[go_sem] theorem isBld113 : isBld Go.Proofs.Tryd.prog 113 = false := by kernel_rfl
@[go_sem] theorem bytes113 : Go.Proofs.Tryd.prog.bytesOf 113 = 0 := by kernel_rfl
@[go_sem] theorem zero113 : zeroOf Go.Proofs.Tryd.prog 113 = Option.some (Go.Value.agg #[]) := by kernel_rfl
@[go_sem] theorem cells114 : Go.Proofs.Tryd.prog.cellsOf 114 = 0 := by kernel_rfl
@[go_sem] theorem isBld114 : isBld Go.Proofs.Tryd.prog 114 = false := by kernel_rfl
@[go_sem] theorem bytes114 : Go.Proofs.Tryd.prog.bytesOf 114 = 0 := by kernel_rfl
@[go_sem] theorem zero114 : zeroOf Go.Proofs.Tryd.prog 114 = Option.some (Go.Value.agg #[]) := by kernel_rfl
@[go_sem] theorem cells115 : Go.Proofs.Tryd.prog.cellsOf 115 = 0 := by kernel_rfl
@[go_sem] theorem isBld115 : isBld Go.Proofs.Tryd.prog 115 = false := by kernel_rfl
@[go_sem] theorem bytes115 : Go.Proofs.Tryd.prog.bytesOf 115 = 0 := by kernel_rfl
@[go_sem] theorem zero115 : zeroOf Go.Proofs.Tryd.prog 115 = Option.some (Go.Value.agg #[]) := by kernel_rfl
@[go_sem] theorem cells116 : Go.Proofs.Tryd.prog.cellsOf 116 = 1 := by kernel_rfl
@[go_sem] theorem isBld116 : isBld Go.Proofs.Tryd.prog 116 = false := by kernel_rfl
@[go_sem] theorem bytes116 : Go.Proofs.Tryd.prog.bytesOf 116 = 8 := by kernel_rfl
@[go_sem] theorem zero116 : zeroOf Go.Proofs.Tryd.prog 116 = Option.some Go.Value.nilFunc := by kernel_rfl
@[go_sem] theorem cells117 : Go.Proofs.Tryd.prog.cellsOf 117 = 1 := by kernel_rfl
@[go_sem] theorem isBld117 : isBld Go.Proofs.Tryd.prog 117 = false := by kernel_rfl
@[go_sem] theorem bytes117 : Go.Proofs.Tryd.prog.bytesOf 117 = 1 := by kernel_rfl
@[go_sem] theorem zero117 : zeroOf Go.Proofs.Tryd.prog 117 = Option.some (Go.Value.int Go.IntKind.u8 0) := by kernel_rfl
@[go_sem] theorem cells118 : Go.Proofs.Tryd.prog.cellsOf 118 = 1 := by kernel_rfl
@[go_sem] theorem isBld118 : isBld Go.Proofs.Tryd.prog 118 = false := by kernel_rfl
@[go_sem] theorem bytes118 : Go.Proofs.Tryd.prog.bytesOf 118 = 1 := by kernel_rfl
@[go_sem] theorem zero118 : zeroOf Go.Proofs.Tryd.prog 118 = Option.some (Go.Value.int Go.IntKind.u8 0) := by kernel_rfl
@[go_sem] theorem cells119 : Go.Proofs.Tryd.prog.cellsOf 119 = 1 := by kernel_rfl
@[go_sem] theorem isBld119 : isBld Go.Proofs.Tryd.prog 119 = false := by kernel_rfl
@[go_sem] theorem bytes119 : Go.Proofs.Tryd.prog.bytesOf 119 = 8 := by kernel_rfl
@[go_sem] theorem zero119 : zeroOf Go.Proofs.Tryd.prog 119 = Option.some Go.Value.nilFunc := by kernel_rfl
@[go_sem] theorem cells120 : Go.Proofs.Tryd.prog.cellsOf 120 = 1 := by kernel_rfl
@[go_sem] theorem isBld120 : isBld Go.Proofs.Tryd.prog 120 = false := by kernel_rfl
@[go_sem] theorem bytes120 : Go.Proofs.Tryd.prog.bytesOf 120 = 4 := by kernel_rfl
@[go_sem] theorem zero120 : zeroOf Go.Proofs.Tryd.prog 120 = Option.some (Go.Value.int Go.IntKind.i32 0) := by kernel_rfl
@[go_sem] theorem cells121 : Go.Proofs.Tryd.prog.cellsOf 121 = 1 := by kernel_rfl
@[go_sem] theorem isBld121 : isBld Go.Proofs.Tryd.prog 121 = false := by kernel_rfl
@[go_sem] theorem bytes121 : Go.Proofs.Tryd.prog.bytesOf 121 = 4 := by kernel_rfl
@[go_sem] theorem zero121 : zeroOf Go.Proofs.Tryd.prog 121 = Option.some (Go.Value.int Go.IntKind.i32 0) := by kernel_rfl
@[go_sem] theorem cells122 : Go.Proofs.Tryd.prog.cellsOf 122 = 11 := by kernel_rfl
@[go_sem] theorem isBld122 : isBld Go.Proofs.Tryd.prog 122 = false := by kernel_rfl
@[go_sem] theorem bytes122 : Go.Proofs.Tryd.prog.bytesOf 122 = 48 := by kernel_rfl
@[go_sem] theorem zero122 : zeroOf Go.Proofs.Tryd.prog 122 = Option.some (Go.Value.agg #[Go.Value.int Go.IntKind.u64 0, Go.Value.int Go.IntKind.u64 0, Go.Value.int Go.IntKind.u32 0, Go.Value.int Go.IntKind.u8 0, Go.Value.int Go.IntKind.u8 0, Go.Value.int Go.IntKind.u8 0, Go.Value.int Go.IntKind.u8 0, Go.Value.nilFunc, Go.Value.pointer Option.none, Go.Value.int Go.IntKind.i32 0, Go.Value.int Go.IntKind.i32 0]) := by kernel_rfl
@[go_sem] theorem cells123 : Go.Proofs.Tryd.prog.cellsOf 123 = 11 := by kernel_rfl
@[go_sem] theorem isBld123 : isBld Go.Proofs.Tryd.prog 123 = false := by kernel_rfl
@[go_sem] theorem bytes123 : Go.Proofs.Tryd.prog.bytesOf 123 = 48 := by kernel_rfl
@[go_sem] theorem zero123 : zeroOf Go.Proofs.Tryd.prog 123 = Option.some (Go.Value.agg #[Go.Value.int Go.IntKind.u64 0, Go.Value.int Go.IntKind.u64 0, Go.Value.int Go.IntKind.u32 0, Go.Value.int Go.IntKind.u8 0, Go.Value.int Go.IntKind.u8 0, Go.Value.int Go.IntKind.u8 0, Go.Value.int Go.IntKind.u8 0, Go.Value.nilFunc, Go.Value.pointer Option.none, Go.Value.int Go.IntKind.i32 0, Go.Value.int Go.IntKind.i32 0]) := by kernel_rfl
attribute [go_sem] Go.Proofs.Tryd.underlying0 Go.Proofs.Tryd.underlying1 Go.Proofs.Tryd.underlying2 Go.Proofs.Tryd.underlying3 Go.Proofs.Tryd.underlying4 Go.Proofs.Tryd.underlying5 Go.Proofs.Tryd.underlying6 Go.Proofs.Tryd.underlying7 Go.Proofs.Tryd.underlying8 Go.Proofs.Tryd.underlying9 Go.Proofs.Tryd.underlying10 Go.Proofs.Tryd.underlying11 Go.Proofs.Tryd.underlying12 Go.Proofs.Tryd.underlying13 Go.Proofs.Tryd.underlying14 Go.Proofs.Tryd.underlying15 Go.Proofs.Tryd.underlying16 Go.Proofs.Tryd.underlying17 Go.Proofs.Tryd.underlying18 Go.Proofs.Tryd.underlying19 Go.Proofs.Tryd.underlying20 Go.Proofs.Tryd.underlying21 Go.Proofs.Tryd.underlying22 Go.Proofs.Tryd.underlying23 Go.Proofs.Tryd.underlying24 Go.Proofs.Tryd.underlying25 Go.Proofs.Tryd.underlying26 Go.Proofs.Tryd.underlying27 Go.Proofs.Tryd.underlying28 Go.Proofs.Tryd.underlying29 Go.Proofs.Tryd.underlying30 Go.Proofs.Tryd.underlying31 Go.Proofs.Tryd.underlying32 Go.Proofs.Tryd.underlying33 Go.Proofs.Tryd.underlying34 Go.Proofs.Tryd.underlying35 Go.Proofs.Tryd.underlying36 Go.Proofs.Tryd.underlying37 Go.Proofs.Tryd.underlying38 Go.Proofs.Tryd.underlying39 Go.Proofs.Tryd.underlying40 Go.Proofs.Tryd.underlying41 Go.Proofs.Tryd.underlying42 Go.Proofs.Tryd.underlying43 Go.Proofs.Tryd.underlying44 Go.Proofs.Tryd.underlying45 Go.Proofs.Tryd.underlying46 Go.Proofs.Tryd.underlying47 Go.Proofs.Tryd.underlying48 Go.Proofs.Tryd.underlying49 Go.Proofs.Tryd.underlying50 Go.Proofs.Tryd.underlying51 Go.Proofs.Tryd.underlying52 Go.Proofs.Tryd.underlying53 Go.Proofs.Tryd.underlying54 Go.Proofs.Tryd.underlying55 Go.Proofs.Tryd.underlying56 Go.Proofs.Tryd.underlying57 Go.Proofs.Tryd.underlying58 Go.Proofs.Tryd.underlying59 Go.Proofs.Tryd.underlying60 Go.Proofs.Tryd.underlying61 Go.Proofs.Tryd.underlying62 Go.Proofs.Tryd.underlying63 Go.Proofs.Tryd.underlying64 Go.Proofs.Tryd.underlying65 Go.Proofs.Tryd.underlying66 Go.Proofs.Tryd.underlying67 Go.Proofs.Tryd.underlying68 Go.Proofs.Tryd.underlying69 Go.Proofs.Tryd.underlying70 Go.Proofs.Tryd.underlying71 Go.Proofs.Tryd.underlying72 Go.Proofs.Tryd.underlying73 Go.Proofs.Tryd.underlying74 Go.Proofs.Tryd.underlying75 Go.Proofs.Tryd.underlying76 Go.Proofs.Tryd.underlying77 Go.Proofs.Tryd.underlying78 Go.Proofs.Tryd.underlying79 Go.Proofs.Tryd.underlying80 Go.Proofs.Tryd.underlying81 Go.Proofs.Tryd.underlying82 Go.Proofs.Tryd.underlying83 Go.Proofs.Tryd.underlying84 Go.Proofs.Tryd.underlying85 Go.Proofs.Tryd.underlying86 Go.Proofs.Tryd.underlying87 Go.Proofs.Tryd.underlying88 Go.Proofs.Tryd.underlying89 Go.Proofs.Tryd.underlying90 Go.Proofs.Tryd.underlying91 Go.Proofs.Tryd.underlying92 Go.Proofs.Tryd.underlying93 Go.Proofs.Tryd.underlying94 Go.Proofs.Tryd.underlying95 Go.Proofs.Tryd.underlying96 Go.Proofs.Tryd.underlying97 Go.Proofs.Tryd.underlying98 Go.Proofs.Tryd.underlying99 Go.Proofs.Tryd.underlying100 Go.Proofs.Tryd.underlying101 Go.Proofs.Tryd.underlying102 Go.Proofs.Tryd.underlying103 Go.Proofs.Tryd.underlying104 Go.Proofs.Tryd.underlying105 Go.Proofs.Tryd.underlying106 Go.Proofs.Tryd.underlying107 Go.Proofs.Tryd.underlying108 Go.Proofs.Tryd.underlying109 Go.Proofs.Tryd.underlying110 Go.Proofs.Tryd.underlying111 Go.Proofs.Tryd.underlying112 Go.Proofs.Tryd.underlying113 Go.Proofs.Tryd.underlying114 Go.Proofs.Tryd.underlying115 Go.Proofs.Tryd.underlying116 Go.Proofs.Tryd.underlying117 Go.Proofs.Tryd.underlying118 Go.Proofs.Tryd.underlying119 Go.Proofs.Tryd.underlying120 Go.Proofs.Tryd.underlying121 Go.Proofs.Tryd.underlying122 Go.Proofs.Tryd.underlying123
end Go.Idl
