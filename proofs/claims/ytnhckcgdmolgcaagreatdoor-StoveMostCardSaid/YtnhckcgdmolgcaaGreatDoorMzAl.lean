/- Lemmas on which the claim leans. -/
import Derived.Test.YtnhckcgdmolgcaaGreatDoorMzAk
import Derived.Test.YtnhckcgdmolgcaaGreatDoorProg
import Derived.KernelRfl
namespace Go.Mz
open Go.Proofs
theorem agg0 : aggB Tryz.prog 0 = some false := agg_of Tryz.underlying0 rfl
theorem size0 : (Tryz.prog.info? 0).map (·.size) = some 1 := by kernel_rfl
theorem zero0 : (Tryz.prog.info? 0).bind (·.zero) = Option.some (Go.Value.tuple #[]) := by kernel_rfl
theorem bytes0 : (Tryz.prog.info? 0).map (·.bytes) = some 0 := by kernel_rfl
theorem agg1 : aggB Tryz.prog 1 = some false := agg_of Tryz.underlying1 rfl
theorem size1 : (Tryz.prog.info? 1).map (·.size) = some 1 := by kernel_rfl
theorem zero1 : (Tryz.prog.info? 1).bind (·.zero) = Option.some Go.Value.nilFunc := by kernel_rfl
theorem bytes1 : (Tryz.prog.info? 1).map (·.bytes) = some 8 := by kernel_rfl
theorem agg2 : aggB Tryz.prog 2 = some false := agg_of Tryz.underlying2 rfl
theorem size2 : (Tryz.prog.info? 2).map (·.size) = some 1 := by kernel_rfl
theorem zero2 : (Tryz.prog.info? 2).bind (·.zero) = Option.some (Go.Value.int Go.IntKind.i64 0) := by kernel_rfl
theorem bytes2 : (Tryz.prog.info? 2).map (·.bytes) = some 8 := by kernel_rfl
theorem agg3 : aggB Tryz.prog 3 = some false := agg_of Tryz.underlying3 rfl
theorem size3 : (Tryz.prog.info? 3).map (·.size) = some 1 := by kernel_rfl
theorem zero3 : (Tryz.prog.info? 3).bind (·.zero) = Option.some (Go.Value.int Go.IntKind.i64 0) := by kernel_rfl
theorem bytes3 : (Tryz.prog.info? 3).map (·.bytes) = some 8 := by kernel_rfl
theorem agg4 : aggB Tryz.prog 4 = some false := agg_of Tryz.underlying4 rfl
theorem size4 : (Tryz.prog.info? 4).map (·.size) = some 1 := by kernel_rfl
theorem zero4 : (Tryz.prog.info? 4).bind (·.zero) = Option.some (Go.Value.bool Bool.false) := by kernel_rfl
theorem bytes4 : (Tryz.prog.info? 4).map (·.bytes) = some 1 := by kernel_rfl
theorem agg5 : aggB Tryz.prog 5 = some false := agg_of Tryz.underlying5 rfl
theorem size5 : (Tryz.prog.info? 5).map (·.size) = some 1 := by kernel_rfl
theorem zero5 : (Tryz.prog.info? 5).bind (·.zero) = Option.some (Go.Value.int Go.IntKind.u8 0) := by kernel_rfl
theorem bytes5 : (Tryz.prog.info? 5).map (·.bytes) = some 1 := by kernel_rfl
theorem agg6 : aggB Tryz.prog 6 = some false := agg_of Tryz.underlying6 rfl
theorem size6 : (Tryz.prog.info? 6).map (·.size) = some 1 := by kernel_rfl
theorem zero6 : (Tryz.prog.info? 6).bind (·.zero) = Option.some (Go.Value.int Go.IntKind.u8 0) := by kernel_rfl
theorem bytes6 : (Tryz.prog.info? 6).map (·.bytes) = some 1 := by kernel_rfl
theorem agg8 : aggB Tryz.prog 8 = some true := agg_of Tryz.underlying8 rfl
theorem size8 : (Tryz.prog.info? 8).map (·.size) = some 4 := by kernel_rfl
theorem zero8 : (Tryz.prog.info? 8).bind (·.zero) = Option.some (Go.Value.agg #[Go.Value.int Go.IntKind.i64 0, Go.Value.int Go.IntKind.i64 0, Go.Value.bool Bool.false, Go.Value.int Go.IntKind.u8 0]) := by kernel_rfl
theorem bytes8 : (Tryz.prog.info? 8).map (·.bytes) = some 24 := by kernel_rfl
theorem agg9 : aggB Tryz.prog 9 = some false := agg_of Tryz.underlying9 rfl
theorem size9 : (Tryz.prog.info? 9).map (·.size) = some 1 := by kernel_rfl
theorem zero9 : (Tryz.prog.info? 9).bind (·.zero) = Option.some (Go.Value.string { data := #[] }) := by kernel_rfl
theorem bytes9 : (Tryz.prog.info? 9).map (·.bytes) = some 16 := by kernel_rfl
theorem agg10 : aggB Tryz.prog 10 = some false := agg_of Tryz.underlying10 rfl
theorem size10 : (Tryz.prog.info? 10).map (·.size) = some 1 := by kernel_rfl
theorem zero10 : (Tryz.prog.info? 10).bind (·.zero) = Option.some (Go.Value.string { data := #[] }) := by kernel_rfl
theorem bytes10 : (Tryz.prog.info? 10).map (·.bytes) = some 16 := by kernel_rfl
theorem agg11 : aggB Tryz.prog 11 = some false := agg_of Tryz.underlying11 rfl
theorem size11 : (Tryz.prog.info? 11).map (·.size) = some 1 := by kernel_rfl
theorem zero11 : (Tryz.prog.info? 11).bind (·.zero) = Option.some (Go.Value.string { data := #[] }) := by kernel_rfl
theorem bytes11 : (Tryz.prog.info? 11).map (·.bytes) = some 16 := by kernel_rfl
theorem agg12 : aggB Tryz.prog 12 = some false := agg_of Tryz.underlying12 rfl
theorem size12 : (Tryz.prog.info? 12).map (·.size) = some 1 := by kernel_rfl
theorem zero12 : (Tryz.prog.info? 12).bind (·.zero) = Option.some (Go.Value.int Go.IntKind.u64 0) := by kernel_rfl
theorem bytes12 : (Tryz.prog.info? 12).map (·.bytes) = some 8 := by kernel_rfl
theorem agg14 : aggB Tryz.prog 14 = some true := agg_of Tryz.underlying14 rfl
theorem size14 : (Tryz.prog.info? 14).map (·.size) = some 2 := by kernel_rfl
theorem zero14 : (Tryz.prog.info? 14).bind (·.zero) = Option.some (Go.Value.agg #[Go.Value.string { data := #[] }, Go.Value.int Go.IntKind.u64 0]) := by kernel_rfl
theorem bytes14 : (Tryz.prog.info? 14).map (·.bytes) = some 24 := by kernel_rfl
theorem agg15 : aggB Tryz.prog 15 = some false := agg_of Tryz.underlying15 rfl
theorem size15 : (Tryz.prog.info? 15).map (·.size) = some 1 := by kernel_rfl
theorem zero15 : (Tryz.prog.info? 15).bind (·.zero) = Option.some (Go.Value.pointer Option.none) := by kernel_rfl
theorem bytes15 : (Tryz.prog.info? 15).map (·.bytes) = some 8 := by kernel_rfl
theorem agg16 : aggB Tryz.prog 16 = some false := agg_of Tryz.underlying16 rfl
theorem size16 : (Tryz.prog.info? 16).map (·.size) = some 1 := by kernel_rfl
theorem zero16 : (Tryz.prog.info? 16).bind (·.zero) = Option.some (Go.Value.pointer Option.none) := by kernel_rfl
theorem bytes16 : (Tryz.prog.info? 16).map (·.bytes) = some 8 := by kernel_rfl
theorem agg17 : aggB Tryz.prog 17 = some false := agg_of Tryz.underlying17 rfl
theorem size17 : (Tryz.prog.info? 17).map (·.size) = some 1 := by kernel_rfl
theorem zero17 : (Tryz.prog.info? 17).bind (·.zero) = Option.some (Go.Value.pointer Option.none) := by kernel_rfl
theorem bytes17 : (Tryz.prog.info? 17).map (·.bytes) = some 8 := by kernel_rfl
theorem agg19 : aggB Tryz.prog 19 = some true := agg_of Tryz.underlying19 rfl
theorem size19 : (Tryz.prog.info? 19).map (·.size) = some 1 := by kernel_rfl
theorem zero19 : (Tryz.prog.info? 19).bind (·.zero) = Option.some (Go.Value.agg #[Go.Value.pointer Option.none]) := by kernel_rfl
theorem bytes19 : (Tryz.prog.info? 19).map (·.bytes) = some 8 := by kernel_rfl
theorem agg20 : aggB Tryz.prog 20 = some false := agg_of Tryz.underlying20 rfl
theorem size20 : (Tryz.prog.info? 20).map (·.size) = some 1 := by kernel_rfl
theorem zero20 : (Tryz.prog.info? 20).bind (·.zero) = Option.some Go.Value.nilIface := by kernel_rfl
theorem bytes20 : (Tryz.prog.info? 20).map (·.bytes) = some 16 := by kernel_rfl
theorem agg21 : aggB Tryz.prog 21 = some false := agg_of Tryz.underlying21 rfl
theorem size21 : (Tryz.prog.info? 21).map (·.size) = some 1 := by kernel_rfl
theorem zero21 : (Tryz.prog.info? 21).bind (·.zero) = Option.some (Go.Value.int Go.IntKind.i32 0) := by kernel_rfl
theorem bytes21 : (Tryz.prog.info? 21).map (·.bytes) = some 4 := by kernel_rfl
theorem agg22 : aggB Tryz.prog 22 = some false := agg_of Tryz.underlying22 rfl
theorem size22 : (Tryz.prog.info? 22).map (·.size) = some 1 := by kernel_rfl
theorem zero22 : (Tryz.prog.info? 22).bind (·.zero) = Option.some (Go.Value.slice Option.none 0 0) := by kernel_rfl
theorem bytes22 : (Tryz.prog.info? 22).map (·.bytes) = some 24 := by kernel_rfl
theorem agg23 : aggB Tryz.prog 23 = some false := agg_of Tryz.underlying23 rfl
theorem size23 : (Tryz.prog.info? 23).map (·.size) = some 1 := by kernel_rfl
theorem zero23 : (Tryz.prog.info? 23).bind (·.zero) = Option.some (Go.Value.slice Option.none 0 0) := by kernel_rfl
theorem bytes23 : (Tryz.prog.info? 23).map (·.bytes) = some 24 := by kernel_rfl
theorem agg25 : aggB Tryz.prog 25 = some true := agg_of Tryz.underlying25 rfl
theorem size25 : (Tryz.prog.info? 25).map (·.size) = some 6 := by kernel_rfl
theorem zero25 : (Tryz.prog.info? 25).bind (·.zero) = Option.some (Go.Value.agg #[Go.Value.slice Option.none 0 0, Go.Value.slice Option.none 0 0, Go.Value.int Go.IntKind.i64 0, Go.Value.int Go.IntKind.i64 0, Go.Value.int Go.IntKind.i64 0, Go.Value.int Go.IntKind.i64 0]) := by kernel_rfl
theorem bytes25 : (Tryz.prog.info? 25).map (·.bytes) = some 80 := by kernel_rfl
theorem agg27 : aggB Tryz.prog 27 = some true := agg_of Tryz.underlying27 rfl
theorem size27 : (Tryz.prog.info? 27).map (·.size) = some 4 := by kernel_rfl
theorem zero27 : (Tryz.prog.info? 27).bind (·.zero) = Option.some (Go.Value.agg #[Go.Value.int Go.IntKind.i64 0, Go.Value.int Go.IntKind.i64 0, Go.Value.int Go.IntKind.i64 0, Go.Value.int Go.IntKind.i64 0]) := by kernel_rfl
theorem bytes27 : (Tryz.prog.info? 27).map (·.bytes) = some 32 := by kernel_rfl
theorem agg28 : aggB Tryz.prog 28 = some false := agg_of Tryz.underlying28 rfl
theorem size28 : (Tryz.prog.info? 28).map (·.size) = some 1 := by kernel_rfl
theorem zero28 : (Tryz.prog.info? 28).bind (·.zero) = Option.some (Go.Value.slice Option.none 0 0) := by kernel_rfl
theorem bytes28 : (Tryz.prog.info? 28).map (·.bytes) = some 24 := by kernel_rfl
theorem agg30 : aggB Tryz.prog 30 = some true := agg_of Tryz.underlying30 rfl
theorem size30 : (Tryz.prog.info? 30).map (·.size) = some 2 := by kernel_rfl
theorem zero30 : (Tryz.prog.info? 30).bind (·.zero) = Option.some (Go.Value.agg #[Go.Value.int Go.IntKind.i64 0, Go.Value.int Go.IntKind.i64 0]) := by kernel_rfl
theorem bytes30 : (Tryz.prog.info? 30).map (·.bytes) = some 16 := by kernel_rfl
theorem agg33 : aggB Tryz.prog 33 = some false := agg_of Tryz.underlying33 rfl
theorem size33 : (Tryz.prog.info? 33).map (·.size) = some 1 := by kernel_rfl
theorem zero33 : (Tryz.prog.info? 33).bind (·.zero) = Option.some (Go.Value.pointer Option.none) := by kernel_rfl
theorem bytes33 : (Tryz.prog.info? 33).map (·.bytes) = some 8 := by kernel_rfl
theorem agg35 : aggB Tryz.prog 35 = some false := agg_of Tryz.underlying35 rfl
theorem size35 : (Tryz.prog.info? 35).map (·.size) = some 1 := by kernel_rfl
theorem zero35 : (Tryz.prog.info? 35).bind (·.zero) = Option.some (Go.Value.slice Option.none 0 0) := by kernel_rfl
theorem bytes35 : (Tryz.prog.info? 35).map (·.bytes) = some 24 := by kernel_rfl
theorem agg36 : aggB Tryz.prog 36 = some false := agg_of Tryz.underlying36 rfl
theorem size36 : (Tryz.prog.info? 36).map (·.size) = some 1 := by kernel_rfl
theorem zero36 : (Tryz.prog.info? 36).bind (·.zero) = Option.some (Go.Value.slice Option.none 0 0) := by kernel_rfl
theorem bytes36 : (Tryz.prog.info? 36).map (·.bytes) = some 24 := by kernel_rfl
theorem agg41 : aggB Tryz.prog 41 = some false := agg_of Tryz.underlying41 rfl
theorem size41 : (Tryz.prog.info? 41).map (·.size) = some 1 := by kernel_rfl
theorem zero41 : (Tryz.prog.info? 41).bind (·.zero) = Option.some (Go.Value.slice Option.none 0 0) := by kernel_rfl
theorem bytes41 : (Tryz.prog.info? 41).map (·.bytes) = some 24 := by kernel_rfl
theorem agg44 : aggB Tryz.prog 44 = some false := agg_of Tryz.underlying44 rfl
theorem size44 : (Tryz.prog.info? 44).map (·.size) = some 1 := by kernel_rfl
theorem zero44 : (Tryz.prog.info? 44).bind (·.zero) = Option.some (Go.Value.int Go.IntKind.i64 0) := by kernel_rfl
theorem bytes44 : (Tryz.prog.info? 44).map (·.bytes) = some 8 := by kernel_rfl
theorem agg59 : aggB Tryz.prog 59 = some true := agg_of Tryz.underlying59 rfl
theorem size59 : (Tryz.prog.info? 59).map (·.size) = some 2 := by kernel_rfl
theorem zero59 : (Tryz.prog.info? 59).bind (·.zero) = Option.some (Go.Value.agg #[Go.Value.int Go.IntKind.i64 0, Go.Value.int Go.IntKind.i64 0]) := by kernel_rfl
theorem bytes59 : (Tryz.prog.info? 59).map (·.bytes) = some 16 := by kernel_rfl
theorem agg60 : aggB Tryz.prog 60 = some false := agg_of Tryz.underlying60 rfl
theorem size60 : (Tryz.prog.info? 60).map (·.size) = some 1 := by kernel_rfl
theorem zero60 : (Tryz.prog.info? 60).bind (·.zero) = Option.some Go.Value.nilFunc := by kernel_rfl
theorem bytes60 : (Tryz.prog.info? 60).map (·.bytes) = some 8 := by kernel_rfl
theorem agg82 : aggB Tryz.prog 82 = some false := agg_of Tryz.underlying82 rfl
theorem size82 : (Tryz.prog.info? 82).map (·.size) = some 1 := by kernel_rfl
theorem zero82 : (Tryz.prog.info? 82).bind (·.zero) = Option.some (Go.Value.slice Option.none 0 0) := by kernel_rfl
theorem bytes82 : (Tryz.prog.info? 82).map (·.bytes) = some 24 := by kernel_rfl
theorem agg95 : aggB Tryz.prog 95 = some false := agg_of Tryz.underlying95 rfl
theorem size95 : (Tryz.prog.info? 95).map (·.size) = some 1 := by kernel_rfl
theorem zero95 : (Tryz.prog.info? 95).bind (·.zero) = Option.some (Go.Value.slice Option.none 0 0) := by kernel_rfl
theorem bytes95 : (Tryz.prog.info? 95).map (·.bytes) = some 24 := by kernel_rfl
theorem agg96 : aggB Tryz.prog 96 = some false := agg_of Tryz.underlying96 rfl
theorem size96 : (Tryz.prog.info? 96).map (·.size) = some 1 := by kernel_rfl
theorem zero96 : (Tryz.prog.info? 96).bind (·.zero) = Option.some (Go.Value.int Go.IntKind.u64 0) := by kernel_rfl
theorem bytes96 : (Tryz.prog.info? 96).map (·.bytes) = some 8 := by kernel_rfl
theorem agg98 : aggB Tryz.prog 98 = some true := agg_of Tryz.underlying98 rfl
theorem size98 : (Tryz.prog.info? 98).map (·.size) = some 3 := by kernel_rfl
theorem zero98 : (Tryz.prog.info? 98).bind (·.zero) = Option.some (Go.Value.agg #[Go.Value.slice Option.none 0 0, Go.Value.int Go.IntKind.i64 0, Go.Value.int Go.IntKind.u64 0]) := by kernel_rfl
theorem bytes98 : (Tryz.prog.info? 98).map (·.bytes) = some 40 := by kernel_rfl
theorem agg101 : aggB Tryz.prog 101 = some false := agg_of Tryz.underlying101 rfl
theorem size101 : (Tryz.prog.info? 101).map (·.size) = some 1 := by kernel_rfl
theorem zero101 : (Tryz.prog.info? 101).bind (·.zero) = Option.some (Go.Value.pointer Option.none) := by kernel_rfl
theorem bytes101 : (Tryz.prog.info? 101).map (·.bytes) = some 8 := by kernel_rfl
theorem agg107 : aggB Tryz.prog 107 = some false := agg_of Tryz.underlying107 rfl
theorem size107 : (Tryz.prog.info? 107).map (·.size) = some 1 := by kernel_rfl
theorem zero107 : (Tryz.prog.info? 107).bind (·.zero) = Option.some Go.Value.nilIface := by kernel_rfl
theorem bytes107 : (Tryz.prog.info? 107).map (·.bytes) = some 16 := by kernel_rfl
theorem agg122 : aggB Tryz.prog 122 = some true := agg_of Tryz.underlying122 rfl
theorem size122 : (Tryz.prog.info? 122).map (·.size) = some 6 := by kernel_rfl
theorem zero122 : (Tryz.prog.info? 122).bind (·.zero) = Option.some (Go.Value.agg #[Go.Value.int Go.IntKind.i64 0, Go.Value.int Go.IntKind.i64 0, Go.Value.int Go.IntKind.i64 0, Go.Value.int Go.IntKind.i64 0, Go.Value.int Go.IntKind.i64 0, Go.Value.int Go.IntKind.i64 0]) := by kernel_rfl
theorem bytes122 : (Tryz.prog.info? 122).map (·.bytes) = some 48 := by kernel_rfl
theorem agg124 : aggB Tryz.prog 124 = some true := agg_of Tryz.underlying124 rfl
theorem size124 : (Tryz.prog.info? 124).map (·.size) = some 8 := by kernel_rfl
theorem zero124 : (Tryz.prog.info? 124).bind (·.zero) = Option.some (Go.Value.agg #[Go.Value.int Go.IntKind.i64 0, Go.Value.int Go.IntKind.i64 0, Go.Value.int Go.IntKind.i64 0, Go.Value.int Go.IntKind.i64 0, Go.Value.int Go.IntKind.i64 0, Go.Value.int Go.IntKind.i64 0, Go.Value.int Go.IntKind.i64 0, Go.Value.bool Bool.false]) := by kernel_rfl
theorem bytes124 : (Tryz.prog.info? 124).map (·.bytes) = some 64 := by kernel_rfl
theorem agg126 : aggB Tryz.prog 126 = some false := agg_of Tryz.underlying126 rfl
theorem size126 : (Tryz.prog.info? 126).map (·.size) = some 1 := by kernel_rfl
theorem zero126 : (Tryz.prog.info? 126).bind (·.zero) = Option.some Go.Value.nilFunc := by kernel_rfl
theorem bytes126 : (Tryz.prog.info? 126).map (·.bytes) = some 8 := by kernel_rfl
theorem agg128 : aggB Tryz.prog 128 = some false := agg_of Tryz.underlying128 rfl
theorem size128 : (Tryz.prog.info? 128).map (·.size) = some 1 := by kernel_rfl
theorem zero128 : (Tryz.prog.info? 128).bind (·.zero) = Option.some (Go.Value.int Go.IntKind.u8 0) := by kernel_rfl
theorem bytes128 : (Tryz.prog.info? 128).map (·.bytes) = some 1 := by kernel_rfl
theorem agg130 : aggB Tryz.prog 130 = some false := agg_of Tryz.underlying130 rfl
theorem size130 : (Tryz.prog.info? 130).map (·.size) = some 1 := by kernel_rfl
theorem zero130 : (Tryz.prog.info? 130).bind (·.zero) = Option.some Go.Value.nilFunc := by kernel_rfl
theorem bytes130 : (Tryz.prog.info? 130).map (·.bytes) = some 8 := by kernel_rfl
theorem agg139 : aggB Tryz.prog 139 = some true := agg_of Tryz.underlying139 rfl
theorem size139 : (Tryz.prog.info? 139).map (·.size) = some 3 := by kernel_rfl
theorem zero139 : (Tryz.prog.info? 139).bind (·.zero) = Option.some (Go.Value.agg #[Go.Value.slice Option.none 0 0, Go.Value.slice Option.none 0 0, Go.Value.slice Option.none 0 0]) := by kernel_rfl
theorem bytes139 : (Tryz.prog.info? 139).map (·.bytes) = some 72 := by kernel_rfl
theorem agg140 : aggB Tryz.prog 140 = some false := agg_of Tryz.underlying140 rfl
theorem size140 : (Tryz.prog.info? 140).map (·.size) = some 1 := by kernel_rfl
theorem zero140 : (Tryz.prog.info? 140).bind (·.zero) = Option.some (Go.Value.map Option.none) := by kernel_rfl
theorem bytes140 : (Tryz.prog.info? 140).map (·.bytes) = some 8 := by kernel_rfl
theorem agg142 : aggB Tryz.prog 142 = some true := agg_of Tryz.underlying142 rfl
theorem size142 : (Tryz.prog.info? 142).map (·.size) = some 11 := by kernel_rfl
theorem zero142 : (Tryz.prog.info? 142).bind (·.zero) = Option.some (Go.Value.agg #[Go.Value.slice Option.none 0 0, Go.Value.slice Option.none 0 0, Go.Value.int Go.IntKind.i64 0, Go.Value.int Go.IntKind.i64 0, Go.Value.int Go.IntKind.i64 0, Go.Value.int Go.IntKind.i64 0, Go.Value.slice Option.none 0 0, Go.Value.slice Option.none 0 0, Go.Value.slice Option.none 0 0, Go.Value.slice Option.none 0 0, Go.Value.map Option.none]) := by kernel_rfl
theorem bytes142 : (Tryz.prog.info? 142).map (·.bytes) = some 184 := by kernel_rfl
theorem agg146 : aggB Tryz.prog 146 = some true := agg_of Tryz.underlying146 rfl
theorem size146 : (Tryz.prog.info? 146).map (·.size) = some 4 := by kernel_rfl
theorem zero146 : (Tryz.prog.info? 146).bind (·.zero) = Option.some (Go.Value.agg #[Go.Value.int Go.IntKind.u8 0, Go.Value.int Go.IntKind.u8 0, Go.Value.int Go.IntKind.u8 0, Go.Value.int Go.IntKind.u8 0]) := by kernel_rfl
theorem bytes146 : (Tryz.prog.info? 146).map (·.bytes) = some 4 := by kernel_rfl
theorem agg148 : aggB Tryz.prog 148 = some true := agg_of Tryz.underlying148 rfl
theorem size148 : (Tryz.prog.info? 148).map (·.size) = some 12 := by kernel_rfl
theorem zero148 : (Tryz.prog.info? 148).bind (·.zero) = Option.some (Go.Value.agg #[Go.Value.int Go.IntKind.u8 0, Go.Value.int Go.IntKind.u8 0, Go.Value.int Go.IntKind.u8 0, Go.Value.int Go.IntKind.u8 0, Go.Value.int Go.IntKind.u8 0, Go.Value.int Go.IntKind.u8 0, Go.Value.int Go.IntKind.u8 0, Go.Value.int Go.IntKind.u8 0, Go.Value.int Go.IntKind.u8 0, Go.Value.int Go.IntKind.u8 0, Go.Value.int Go.IntKind.u8 0, Go.Value.int Go.IntKind.u8 0]) := by kernel_rfl
theorem bytes148 : (Tryz.prog.info? 148).map (·.bytes) = some 12 := by kernel_rfl
theorem agg154 : aggB Tryz.prog 154 = some false := agg_of Tryz.underlying154 rfl
theorem size154 : (Tryz.prog.info? 154).map (·.size) = some 1 := by kernel_rfl
theorem zero154 : (Tryz.prog.info? 154).bind (·.zero) = Option.some (Go.Value.int Go.IntKind.u64 0) := by kernel_rfl
theorem bytes154 : (Tryz.prog.info? 154).map (·.bytes) = some 8 := by kernel_rfl
theorem agg156 : aggB Tryz.prog 156 = some true := agg_of Tryz.underlying156 rfl
theorem size156 : (Tryz.prog.info? 156).map (·.size) = some 2 := by kernel_rfl
theorem zero156 : (Tryz.prog.info? 156).bind (·.zero) = Option.some (Go.Value.agg #[Go.Value.int Go.IntKind.i64 0, Go.Value.int Go.IntKind.i64 0]) := by kernel_rfl
theorem bytes156 : (Tryz.prog.info? 156).map (·.bytes) = some 16 := by kernel_rfl
theorem agg158 : aggB Tryz.prog 158 = some true := agg_of Tryz.underlying158 rfl
theorem size158 : (Tryz.prog.info? 158).map (·.size) = some 1 := by kernel_rfl
theorem zero158 : (Tryz.prog.info? 158).bind (·.zero) = Option.some (Go.Value.agg #[Go.Value.int Go.IntKind.i64 0]) := by kernel_rfl
theorem bytes158 : (Tryz.prog.info? 158).map (·.bytes) = some 8 := by kernel_rfl
theorem agg161 : aggB Tryz.prog 161 = some false := agg_of Tryz.underlying161 rfl
theorem size161 : (Tryz.prog.info? 161).map (·.size) = some 1 := by kernel_rfl
theorem zero161 : (Tryz.prog.info? 161).bind (·.zero) = Option.some Go.Value.nilIface := by kernel_rfl
theorem bytes161 : (Tryz.prog.info? 161).map (·.bytes) = some 16 := by kernel_rfl
theorem agg163 : aggB Tryz.prog 163 = some false := agg_of Tryz.underlying163 rfl
theorem size163 : (Tryz.prog.info? 163).map (·.size) = some 1 := by kernel_rfl
theorem zero163 : (Tryz.prog.info? 163).bind (·.zero) = Option.some (Go.Value.pointer Option.none) := by kernel_rfl
theorem bytes163 : (Tryz.prog.info? 163).map (·.bytes) = some 8 := by kernel_rfl
theorem agg164 : aggB Tryz.prog 164 = some true := agg_of Tryz.underlying164 rfl
theorem size164 : (Tryz.prog.info? 164).map (·.size) = some 1 := by kernel_rfl
theorem zero164 : (Tryz.prog.info? 164).bind (·.zero) = Option.some (Go.Value.agg #[Go.Value.int Go.IntKind.i64 0]) := by kernel_rfl
theorem bytes164 : (Tryz.prog.info? 164).map (·.bytes) = some 8 := by kernel_rfl
theorem agg165 : aggB Tryz.prog 165 = some true := agg_of Tryz.underlying165 rfl
theorem size165 : (Tryz.prog.info? 165).map (·.size) = some 1 := by kernel_rfl
theorem zero165 : (Tryz.prog.info? 165).bind (·.zero) = Option.some (Go.Value.agg #[Go.Value.int Go.IntKind.i64 0]) := by kernel_rfl
theorem bytes165 : (Tryz.prog.info? 165).map (·.bytes) = some 8 := by kernel_rfl
theorem agg166 : aggB Tryz.prog 166 = some true := agg_of Tryz.underlying166 rfl
theorem size166 : (Tryz.prog.info? 166).map (·.size) = some 1 := by kernel_rfl
theorem zero166 : (Tryz.prog.info? 166).bind (·.zero) = Option.some (Go.Value.agg #[Go.Value.int Go.IntKind.i64 0]) := by kernel_rfl
theorem bytes166 : (Tryz.prog.info? 166).map (·.bytes) = some 8 := by kernel_rfl
theorem agg168 : aggB Tryz.prog 168 = some false := agg_of Tryz.underlying168 rfl
theorem size168 : (Tryz.prog.info? 168).map (·.size) = some 1 := by kernel_rfl
theorem zero168 : (Tryz.prog.info? 168).bind (·.zero) = Option.some Go.Value.nilFunc := by kernel_rfl
theorem bytes168 : (Tryz.prog.info? 168).map (·.bytes) = some 8 := by kernel_rfl
theorem agg170 : aggB Tryz.prog 170 = some false := agg_of Tryz.underlying170 rfl
theorem size170 : (Tryz.prog.info? 170).map (·.size) = some 1 := by kernel_rfl
theorem zero170 : (Tryz.prog.info? 170).bind (·.zero) = Option.some (Go.Value.chan Option.none) := by kernel_rfl
theorem bytes170 : (Tryz.prog.info? 170).map (·.bytes) = some 8 := by kernel_rfl
theorem agg171 : aggB Tryz.prog 171 = some false := agg_of Tryz.underlying171 rfl
theorem size171 : (Tryz.prog.info? 171).map (·.size) = some 1 := by kernel_rfl
theorem zero171 : (Tryz.prog.info? 171).bind (·.zero) = Option.some (Go.Value.chan Option.none) := by kernel_rfl
theorem bytes171 : (Tryz.prog.info? 171).map (·.bytes) = some 8 := by kernel_rfl
theorem agg173 : aggB Tryz.prog 173 = some true := agg_of Tryz.underlying173 rfl
theorem size173 : (Tryz.prog.info? 173).map (·.size) = some 0 := by kernel_rfl
theorem zero173 : (Tryz.prog.info? 173).bind (·.zero) = Option.some (Go.Value.agg #[]) := by kernel_rfl
theorem bytes173 : (Tryz.prog.info? 173).map (·.bytes) = some 0 := by kernel_rfl
theorem agg174 : aggB Tryz.prog 174 = some true := agg_of Tryz.underlying174 rfl
theorem size174 : (Tryz.prog.info? 174).map (·.size) = some 0 := by kernel_rfl
theorem zero174 : (Tryz.prog.info? 174).bind (·.zero) = Option.some (Go.Value.agg #[]) := by kernel_rfl
theorem bytes174 : (Tryz.prog.info? 174).map (·.bytes) = some 0 := by kernel_rfl
theorem agg175 : aggB Tryz.prog 175 = some true := agg_of Tryz.underlying175 rfl
theorem size175 : (Tryz.prog.info? 175).map (·.size) = some 0 := by kernel_rfl
theorem zero175 : (Tryz.prog.info? 175).bind (·.zero) = Option.some (Go.Value.agg #[]) := by kernel_rfl
theorem bytes175 : (Tryz.prog.info? 175).map (·.bytes) = some 0 := by kernel_rfl
theorem agg177 : aggB Tryz.prog 177 = some true := agg_of Tryz.underlying177 rfl
theorem size177 : (Tryz.prog.info? 177).map (·.size) = some 1 := by kernel_rfl
theorem zero177 : (Tryz.prog.info? 177).bind (·.zero) = Option.some (Go.Value.agg #[Go.Value.int Go.IntKind.u64 0]) := by kernel_rfl
theorem bytes177 : (Tryz.prog.info? 177).map (·.bytes) = some 8 := by kernel_rfl
theorem agg178 : aggB Tryz.prog 178 = some false := agg_of Tryz.underlying178 rfl
theorem size178 : (Tryz.prog.info? 178).map (·.size) = some 1 := by kernel_rfl
theorem zero178 : (Tryz.prog.info? 178).bind (·.zero) = Option.some (Go.Value.int Go.IntKind.u32 0) := by kernel_rfl
theorem bytes178 : (Tryz.prog.info? 178).map (·.bytes) = some 4 := by kernel_rfl
theorem agg180 : aggB Tryz.prog 180 = some true := agg_of Tryz.underlying180 rfl
theorem size180 : (Tryz.prog.info? 180).map (·.size) = some 2 := by kernel_rfl
theorem zero180 : (Tryz.prog.info? 180).bind (·.zero) = Option.some (Go.Value.agg #[Go.Value.int Go.IntKind.u64 0, Go.Value.int Go.IntKind.u32 0]) := by kernel_rfl
theorem bytes180 : (Tryz.prog.info? 180).map (·.bytes) = some 16 := by kernel_rfl
theorem agg182 : aggB Tryz.prog 182 = some false := agg_of Tryz.underlying182 rfl
theorem size182 : (Tryz.prog.info? 182).map (·.size) = some 1 := by kernel_rfl
theorem zero182 : (Tryz.prog.info? 182).bind (·.zero) = Option.some (Go.Value.slice Option.none 0 0) := by kernel_rfl
theorem bytes182 : (Tryz.prog.info? 182).map (·.bytes) = some 24 := by kernel_rfl
theorem agg184 : aggB Tryz.prog 184 = some true := agg_of Tryz.underlying184 rfl
theorem size184 : (Tryz.prog.info? 184).map (·.size) = some 3 := by kernel_rfl
theorem zero184 : (Tryz.prog.info? 184).bind (·.zero) = Option.some (Go.Value.agg #[Go.Value.slice Option.none 0 0, Go.Value.int Go.IntKind.i64 0, Go.Value.bool Bool.false]) := by kernel_rfl
theorem bytes184 : (Tryz.prog.info? 184).map (·.bytes) = some 40 := by kernel_rfl
theorem agg187 : aggB Tryz.prog 187 = some false := agg_of Tryz.underlying187 rfl
theorem size187 : (Tryz.prog.info? 187).map (·.size) = some 1 := by kernel_rfl
theorem zero187 : (Tryz.prog.info? 187).bind (·.zero) = Option.some Go.Value.nilFunc := by kernel_rfl
theorem bytes187 : (Tryz.prog.info? 187).map (·.bytes) = some 8 := by kernel_rfl
theorem agg188 : aggB Tryz.prog 188 = some false := agg_of Tryz.underlying188 rfl
theorem size188 : (Tryz.prog.info? 188).map (·.size) = some 1 := by kernel_rfl
theorem zero188 : (Tryz.prog.info? 188).bind (·.zero) = Option.some Go.Value.nilFunc := by kernel_rfl
theorem bytes188 : (Tryz.prog.info? 188).map (·.bytes) = some 8 := by kernel_rfl
theorem agg190 : aggB Tryz.prog 190 = some false := agg_of Tryz.underlying190 rfl
theorem size190 : (Tryz.prog.info? 190).map (·.size) = some 1 := by kernel_rfl
theorem zero190 : (Tryz.prog.info? 190).bind (·.zero) = Option.some (Go.Value.pointer Option.none) := by kernel_rfl
theorem bytes190 : (Tryz.prog.info? 190).map (·.bytes) = some 8 := by kernel_rfl
theorem agg192 : aggB Tryz.prog 192 = some false := agg_of Tryz.underlying192 rfl
theorem size192 : (Tryz.prog.info? 192).map (·.size) = some 1 := by kernel_rfl
theorem zero192 : (Tryz.prog.info? 192).bind (·.zero) = Option.some (Go.Value.pointer Option.none) := by kernel_rfl
theorem bytes192 : (Tryz.prog.info? 192).map (·.bytes) = some 8 := by kernel_rfl
theorem agg196 : aggB Tryz.prog 196 = some false := agg_of Tryz.underlying196 rfl
theorem size196 : (Tryz.prog.info? 196).map (·.size) = some 1 := by kernel_rfl
theorem zero196 : (Tryz.prog.info? 196).bind (·.zero) = Option.some Go.Value.nilFunc := by kernel_rfl
theorem bytes196 : (Tryz.prog.info? 196).map (·.bytes) = some 8 := by kernel_rfl
theorem agg199 : aggB Tryz.prog 199 = some true := agg_of Tryz.underlying199 rfl
theorem size199 : (Tryz.prog.info? 199).map (·.size) = some 1 := by kernel_rfl
theorem zero199 : (Tryz.prog.info? 199).bind (·.zero) = Option.some (Go.Value.agg #[Go.Value.int Go.IntKind.i64 0]) := by kernel_rfl
theorem bytes199 : (Tryz.prog.info? 199).map (·.bytes) = some 8 := by kernel_rfl
theorem agg202 : aggB Tryz.prog 202 = some false := agg_of Tryz.underlying202 rfl
theorem size202 : (Tryz.prog.info? 202).map (·.size) = some 1 := by kernel_rfl
theorem zero202 : (Tryz.prog.info? 202).bind (·.zero) = Option.some (Go.Value.pointer Option.none) := by kernel_rfl
theorem bytes202 : (Tryz.prog.info? 202).map (·.bytes) = some 8 := by kernel_rfl
theorem agg203 : aggB Tryz.prog 203 = some false := agg_of Tryz.underlying203 rfl
theorem size203 : (Tryz.prog.info? 203).map (·.size) = some 1 := by kernel_rfl
theorem zero203 : (Tryz.prog.info? 203).bind (·.zero) = Option.some (Go.Value.int Go.IntKind.u64 0) := by kernel_rfl
theorem bytes203 : (Tryz.prog.info? 203).map (·.bytes) = some 8 := by kernel_rfl
theorem agg205 : aggB Tryz.prog 205 = some true := agg_of Tryz.underlying205 rfl
theorem size205 : (Tryz.prog.info? 205).map (·.size) = some 3 := by kernel_rfl
theorem zero205 : (Tryz.prog.info? 205).bind (·.zero) = Option.some (Go.Value.agg #[Go.Value.pointer Option.none, Go.Value.pointer Option.none, Go.Value.int Go.IntKind.u64 0]) := by kernel_rfl
theorem bytes205 : (Tryz.prog.info? 205).map (·.bytes) = some 24 := by kernel_rfl
theorem agg208 : aggB Tryz.prog 208 = some false := agg_of Tryz.underlying208 rfl
theorem size208 : (Tryz.prog.info? 208).map (·.size) = some 1 := by kernel_rfl
theorem zero208 : (Tryz.prog.info? 208).bind (·.zero) = Option.some Go.Value.nilIface := by kernel_rfl
theorem bytes208 : (Tryz.prog.info? 208).map (·.bytes) = some 16 := by kernel_rfl
theorem agg210 : aggB Tryz.prog 210 = some false := agg_of Tryz.underlying210 rfl
theorem size210 : (Tryz.prog.info? 210).map (·.size) = some 1 := by kernel_rfl
theorem zero210 : (Tryz.prog.info? 210).bind (·.zero) = Option.some (Go.Value.int Go.IntKind.u8 0) := by kernel_rfl
theorem bytes210 : (Tryz.prog.info? 210).map (·.bytes) = some 1 := by kernel_rfl
theorem agg214 : aggB Tryz.prog 214 = some false := agg_of Tryz.underlying214 rfl
theorem size214 : (Tryz.prog.info? 214).map (·.size) = some 1 := by kernel_rfl
theorem zero214 : (Tryz.prog.info? 214).bind (·.zero) = Option.some Go.Value.nilFunc := by kernel_rfl
theorem bytes214 : (Tryz.prog.info? 214).map (·.bytes) = some 8 := by kernel_rfl
theorem agg215 : aggB Tryz.prog 215 = some false := agg_of Tryz.underlying215 rfl
theorem size215 : (Tryz.prog.info? 215).map (·.size) = some 1 := by kernel_rfl
theorem zero215 : (Tryz.prog.info? 215).bind (·.zero) = Option.some (Go.Value.pointer Option.none) := by kernel_rfl
theorem bytes215 : (Tryz.prog.info? 215).map (·.bytes) = some 8 := by kernel_rfl
theorem agg217 : aggB Tryz.prog 217 = some false := agg_of Tryz.underlying217 rfl
theorem size217 : (Tryz.prog.info? 217).map (·.size) = some 1 := by kernel_rfl
theorem zero217 : (Tryz.prog.info? 217).bind (·.zero) = Option.some (Go.Value.int Go.IntKind.i64 0) := by kernel_rfl
theorem bytes217 : (Tryz.prog.info? 217).map (·.bytes) = some 8 := by kernel_rfl
theorem agg221 : aggB Tryz.prog 221 = some false := agg_of Tryz.underlying221 rfl
theorem size221 : (Tryz.prog.info? 221).map (·.size) = some 1 := by kernel_rfl
theorem zero221 : (Tryz.prog.info? 221).bind (·.zero) = Option.some (Go.Value.pointer Option.none) := by kernel_rfl
theorem bytes221 : (Tryz.prog.info? 221).map (·.bytes) = some 8 := by kernel_rfl
theorem agg228 : aggB Tryz.prog 228 = some false := agg_of Tryz.underlying228 rfl
theorem size228 : (Tryz.prog.info? 228).map (·.size) = some 1 := by kernel_rfl
theorem zero228 : (Tryz.prog.info? 228).bind (·.zero) = Option.some (Go.Value.pointer Option.none) := by kernel_rfl
theorem bytes228 : (Tryz.prog.info? 228).map (·.bytes) = some 8 := by kernel_rfl
theorem agg229 : aggB Tryz.prog 229 = some false := agg_of Tryz.underlying229 rfl
theorem size229 : (Tryz.prog.info? 229).map (·.size) = some 1 := by kernel_rfl
theorem zero229 : (Tryz.prog.info? 229).bind (·.zero) = Option.some Go.Value.nilFunc := by kernel_rfl
theorem bytes229 : (Tryz.prog.info? 229).map (·.bytes) = some 8 := by kernel_rfl
theorem agg232 : aggB Tryz.prog 232 = some true := agg_of Tryz.underlying232 rfl
theorem size232 : (Tryz.prog.info? 232).map (·.size) = some 1 := by kernel_rfl
theorem zero232 : (Tryz.prog.info? 232).bind (·.zero) = Option.some (Go.Value.agg #[Go.Value.pointer Option.none]) := by kernel_rfl
theorem bytes232 : (Tryz.prog.info? 232).map (·.bytes) = some 8 := by kernel_rfl
theorem agg233 : aggB Tryz.prog 233 = some false := agg_of Tryz.underlying233 rfl
theorem size233 : (Tryz.prog.info? 233).map (·.size) = some 1 := by kernel_rfl
theorem zero233 : (Tryz.prog.info? 233).bind (·.zero) = Option.some (Go.Value.pointer Option.none) := by kernel_rfl
theorem bytes233 : (Tryz.prog.info? 233).map (·.bytes) = some 8 := by kernel_rfl
theorem agg237 : aggB Tryz.prog 237 = some false := agg_of Tryz.underlying237 rfl
theorem size237 : (Tryz.prog.info? 237).map (·.size) = some 1 := by kernel_rfl
theorem zero237 : (Tryz.prog.info? 237).bind (·.zero) = Option.some Go.Value.nilIface := by kernel_rfl
theorem bytes237 : (Tryz.prog.info? 237).map (·.bytes) = some 16 := by kernel_rfl
theorem agg240 : aggB Tryz.prog 240 = some false := agg_of Tryz.underlying240 rfl
theorem size240 : (Tryz.prog.info? 240).map (·.size) = some 1 := by kernel_rfl
theorem zero240 : (Tryz.prog.info? 240).bind (·.zero) = Option.some Go.Value.nilIface := by kernel_rfl
theorem bytes240 : (Tryz.prog.info? 240).map (·.bytes) = some 16 := by kernel_rfl
theorem agg242 : aggB Tryz.prog 242 = some false := agg_of Tryz.underlying242 rfl
theorem size242 : (Tryz.prog.info? 242).map (·.size) = some 1 := by kernel_rfl
theorem zero242 : (Tryz.prog.info? 242).bind (·.zero) = Option.some Go.Value.nilIface := by kernel_rfl
theorem bytes242 : (Tryz.prog.info? 242).map (·.bytes) = some 16 := by kernel_rfl
theorem agg243 : aggB Tryz.prog 243 = some false := agg_of Tryz.underlying243 rfl
theorem size243 : (Tryz.prog.info? 243).map (·.size) = some 1 := by kernel_rfl
theorem zero243 : (Tryz.prog.info? 243).bind (·.zero) = Option.some (Go.Value.slice Option.none 0 0) := by kernel_rfl
theorem bytes243 : (Tryz.prog.info? 243).map (·.bytes) = some 24 := by kernel_rfl
theorem agg245 : aggB Tryz.prog 245 = some false := agg_of Tryz.underlying245 rfl
theorem size245 : (Tryz.prog.info? 245).map (·.size) = some 1 := by kernel_rfl
theorem zero245 : (Tryz.prog.info? 245).bind (·.zero) = Option.some (Go.Value.pointer Option.none) := by kernel_rfl
theorem bytes245 : (Tryz.prog.info? 245).map (·.bytes) = some 8 := by kernel_rfl
theorem agg247 : aggB Tryz.prog 247 = some false := agg_of Tryz.underlying247 rfl
theorem size247 : (Tryz.prog.info? 247).map (·.size) = some 1 := by kernel_rfl
theorem zero247 : (Tryz.prog.info? 247).bind (·.zero) = Option.some (Go.Value.pointer Option.none) := by kernel_rfl
theorem bytes247 : (Tryz.prog.info? 247).map (·.bytes) = some 8 := by kernel_rfl
theorem agg253 : aggB Tryz.prog 253 = some true := agg_of Tryz.underlying253 rfl
theorem size253 : (Tryz.prog.info? 253).map (·.size) = some 4 := by kernel_rfl
theorem zero253 : (Tryz.prog.info? 253).bind (·.zero) = Option.some (Go.Value.agg #[Go.Value.pointer Option.none, Go.Value.pointer Option.none, Go.Value.pointer Option.none, Go.Value.string { data := #[] }]) := by kernel_rfl
theorem bytes253 : (Tryz.prog.info? 253).map (·.bytes) = some 40 := by kernel_rfl
theorem agg254 : aggB Tryz.prog 254 = some true := agg_of Tryz.underlying254 rfl
theorem size254 : (Tryz.prog.info? 254).map (·.size) = some 0 := by kernel_rfl
theorem zero254 : (Tryz.prog.info? 254).bind (·.zero) = Option.some (Go.Value.agg #[]) := by kernel_rfl
theorem bytes254 : (Tryz.prog.info? 254).map (·.bytes) = some 0 := by kernel_rfl
theorem agg256 : aggB Tryz.prog 256 = some true := agg_of Tryz.underlying256 rfl
theorem size256 : (Tryz.prog.info? 256).map (·.size) = some 0 := by kernel_rfl
theorem zero256 : (Tryz.prog.info? 256).bind (·.zero) = Option.some (Go.Value.agg #[]) := by kernel_rfl
theorem bytes256 : (Tryz.prog.info? 256).map (·.bytes) = some 0 := by kernel_rfl
theorem agg259 : aggB Tryz.prog 259 = some false := agg_of Tryz.underlying259 rfl
theorem size259 : (Tryz.prog.info? 259).map (·.size) = some 1 := by kernel_rfl
theorem zero259 : (Tryz.prog.info? 259).bind (·.zero) = Option.some (Go.Value.int Go.IntKind.u8 0) := by kernel_rfl
theorem bytes259 : (Tryz.prog.info? 259).map (·.bytes) = some 1 := by kernel_rfl
theorem agg260 : aggB Tryz.prog 260 = some false := agg_of Tryz.underlying260 rfl
theorem size260 : (Tryz.prog.info? 260).map (·.size) = some 1 := by kernel_rfl
theorem zero260 : (Tryz.prog.info? 260).bind (·.zero) = Option.some Go.Value.nilFunc := by kernel_rfl
theorem bytes260 : (Tryz.prog.info? 260).map (·.bytes) = some 8 := by kernel_rfl
theorem agg261 : aggB Tryz.prog 261 = some false := agg_of Tryz.underlying261 rfl
theorem size261 : (Tryz.prog.info? 261).map (·.size) = some 1 := by kernel_rfl
theorem zero261 : (Tryz.prog.info? 261).bind (·.zero) = Option.some (Go.Value.pointer Option.none) := by kernel_rfl
theorem bytes261 : (Tryz.prog.info? 261).map (·.bytes) = some 8 := by kernel_rfl
theorem agg262 : aggB Tryz.prog 262 = some false := agg_of Tryz.underlying262 rfl
theorem size262 : (Tryz.prog.info? 262).map (·.size) = some 1 := by kernel_rfl
theorem zero262 : (Tryz.prog.info? 262).bind (·.zero) = Option.some (Go.Value.int Go.IntKind.i32 0) := by kernel_rfl
theorem bytes262 : (Tryz.prog.info? 262).map (·.bytes) = some 4 := by kernel_rfl
theorem agg263 : aggB Tryz.prog 263 = some false := agg_of Tryz.underlying263 rfl
theorem size263 : (Tryz.prog.info? 263).map (·.size) = some 1 := by kernel_rfl
theorem zero263 : (Tryz.prog.info? 263).bind (·.zero) = Option.some (Go.Value.int Go.IntKind.i32 0) := by kernel_rfl
theorem bytes263 : (Tryz.prog.info? 263).map (·.bytes) = some 4 := by kernel_rfl
theorem agg265 : aggB Tryz.prog 265 = some true := agg_of Tryz.underlying265 rfl
theorem size265 : (Tryz.prog.info? 265).map (·.size) = some 11 := by kernel_rfl
theorem zero265 : (Tryz.prog.info? 265).bind (·.zero) = Option.some (Go.Value.agg #[Go.Value.int Go.IntKind.u64 0, Go.Value.int Go.IntKind.u64 0, Go.Value.int Go.IntKind.u32 0, Go.Value.int Go.IntKind.u8 0, Go.Value.int Go.IntKind.u8 0, Go.Value.int Go.IntKind.u8 0, Go.Value.int Go.IntKind.u8 0, Go.Value.nilFunc, Go.Value.pointer Option.none, Go.Value.int Go.IntKind.i32 0, Go.Value.int Go.IntKind.i32 0]) := by kernel_rfl
theorem bytes265 : (Tryz.prog.info? 265).map (·.bytes) = some 48 := by kernel_rfl
theorem agg269 : aggB Tryz.prog 269 = some true := agg_of Tryz.underlying269 rfl
theorem size269 : (Tryz.prog.info? 269).map (·.size) = some 2 := by kernel_rfl
theorem zero269 : (Tryz.prog.info? 269).bind (·.zero) = Option.some (Go.Value.agg #[Go.Value.string { data := #[] }, Go.Value.int Go.IntKind.u8 0]) := by kernel_rfl
theorem bytes269 : (Tryz.prog.info? 269).map (·.bytes) = some 24 := by kernel_rfl
theorem agg270 : aggB Tryz.prog 270 = some false := agg_of Tryz.underlying270 rfl
theorem size270 : (Tryz.prog.info? 270).map (·.size) = some 1 := by kernel_rfl
theorem zero270 : (Tryz.prog.info? 270).bind (·.zero) = Option.some (Go.Value.pointer Option.none) := by kernel_rfl
theorem bytes270 : (Tryz.prog.info? 270).map (·.bytes) = some 8 := by kernel_rfl
theorem agg272 : aggB Tryz.prog 272 = some false := agg_of Tryz.underlying272 rfl
theorem size272 : (Tryz.prog.info? 272).map (·.size) = some 1 := by kernel_rfl
theorem zero272 : (Tryz.prog.info? 272).bind (·.zero) = Option.some (Go.Value.int Go.IntKind.u16 0) := by kernel_rfl
theorem bytes272 : (Tryz.prog.info? 272).map (·.bytes) = some 2 := by kernel_rfl
theorem agg274 : aggB Tryz.prog 274 = some true := agg_of Tryz.underlying274 rfl
theorem size274 : (Tryz.prog.info? 274).map (·.size) = some 5 := by kernel_rfl
theorem zero274 : (Tryz.prog.info? 274).bind (·.zero) = Option.some (Go.Value.agg #[Go.Value.int Go.IntKind.i32 0, Go.Value.int Go.IntKind.u16 0, Go.Value.int Go.IntKind.u16 0, Go.Value.int Go.IntKind.u32 0, Go.Value.int Go.IntKind.u32 0]) := by kernel_rfl
theorem bytes274 : (Tryz.prog.info? 274).map (·.bytes) = some 16 := by kernel_rfl
theorem agg275 : aggB Tryz.prog 275 = some false := agg_of Tryz.underlying275 rfl
theorem size275 : (Tryz.prog.info? 275).map (·.size) = some 1 := by kernel_rfl
theorem zero275 : (Tryz.prog.info? 275).bind (·.zero) = Option.some (Go.Value.slice Option.none 0 0) := by kernel_rfl
theorem bytes275 : (Tryz.prog.info? 275).map (·.bytes) = some 24 := by kernel_rfl
theorem agg276 : aggB Tryz.prog 276 = some false := agg_of Tryz.underlying276 rfl
theorem size276 : (Tryz.prog.info? 276).map (·.size) = some 1 := by kernel_rfl
theorem zero276 : (Tryz.prog.info? 276).bind (·.zero) = Option.some (Go.Value.int Go.IntKind.i32 0) := by kernel_rfl
theorem bytes276 : (Tryz.prog.info? 276).map (·.bytes) = some 4 := by kernel_rfl
theorem agg278 : aggB Tryz.prog 278 = some true := agg_of Tryz.underlying278 rfl
theorem size278 : (Tryz.prog.info? 278).map (·.size) = some 4 := by kernel_rfl
theorem zero278 : (Tryz.prog.info? 278).bind (·.zero) = Option.some (Go.Value.agg #[Go.Value.int Go.IntKind.i32 0, Go.Value.int Go.IntKind.i32 0, Go.Value.int Go.IntKind.i32 0, Go.Value.int Go.IntKind.i32 0]) := by kernel_rfl
theorem bytes278 : (Tryz.prog.info? 278).map (·.bytes) = some 16 := by kernel_rfl
theorem agg279 : aggB Tryz.prog 279 = some false := agg_of Tryz.underlying279 rfl
theorem size279 : (Tryz.prog.info? 279).map (·.size) = some 1 := by kernel_rfl
theorem zero279 : (Tryz.prog.info? 279).bind (·.zero) = Option.some (Go.Value.pointer Option.none) := by kernel_rfl
theorem bytes279 : (Tryz.prog.info? 279).map (·.bytes) = some 8 := by kernel_rfl
end Go.Mz


namespace Go.Mz
open Go.Conc Go.Proofs
def ti0 : TI := ⟨false, 1, 0, Value.tuple #[], .other⟩
theorem ti0_ok : TIOk Tryz.prog 0 ti0 := ⟨agg0, size0, bytes0, zero0, ⟨_, Tryz.underlying0, fun _ e => by cases e⟩⟩
def ti1 : TI := ⟨false, 1, 8, Value.nilFunc, .other⟩
theorem ti1_ok : TIOk Tryz.prog 1 ti1 := ⟨agg1, size1, bytes1, zero1, ⟨_, Tryz.underlying1, fun _ e => by cases e⟩⟩
def ti2 : TI := ⟨false, 1, 8, Value.int IntKind.i64 0, .int .i64⟩
theorem ti2_ok : TIOk Tryz.prog 2 ti2 := ⟨agg2, size2, bytes2, zero2, Tryz.underlying2⟩
def ti3 : TI := ⟨false, 1, 8, Value.int IntKind.i64 0, .int .i64⟩
theorem ti3_ok : TIOk Tryz.prog 3 ti3 := ⟨agg3, size3, bytes3, zero3, Tryz.underlying3⟩
def ti4 : TI := ⟨false, 1, 1, Value.bool Bool.false, .bool⟩
theorem ti4_ok : TIOk Tryz.prog 4 ti4 := ⟨agg4, size4, bytes4, zero4, Tryz.underlying4⟩
def ti5 : TI := ⟨false, 1, 1, Value.int IntKind.u8 0, .int .u8⟩
theorem ti5_ok : TIOk Tryz.prog 5 ti5 := ⟨agg5, size5, bytes5, zero5, Tryz.underlying5⟩
def ti6 : TI := ⟨false, 1, 1, Value.int IntKind.u8 0, .int .u8⟩
theorem ti6_ok : TIOk Tryz.prog 6 ti6 := ⟨agg6, size6, bytes6, zero6, Tryz.underlying6⟩
def ti8 : TI := ⟨true, 4, 24, Value.agg #[Value.int IntKind.i64 0, Value.int IntKind.i64 0, Value.bool Bool.false, Value.int IntKind.u8 0], .str [(0, 2), (1, 3), (2, 4), (3, 6)]⟩
theorem ti8_ok : TIOk Tryz.prog 8 ti8 := ⟨agg8, size8, bytes8, zero8, ⟨_, Tryz.underlying8, rfl⟩⟩
def ti9 : TI := ⟨false, 1, 16, Value.string { data := #[] }, .other⟩
theorem ti9_ok : TIOk Tryz.prog 9 ti9 := ⟨agg9, size9, bytes9, zero9, ⟨_, Tryz.underlying9, fun _ e => by cases e⟩⟩
def ti10 : TI := ⟨false, 1, 16, Value.string { data := #[] }, .other⟩
theorem ti10_ok : TIOk Tryz.prog 10 ti10 := ⟨agg10, size10, bytes10, zero10, ⟨_, Tryz.underlying10, fun _ e => by cases e⟩⟩
def ti11 : TI := ⟨false, 1, 16, Value.string { data := #[] }, .other⟩
theorem ti11_ok : TIOk Tryz.prog 11 ti11 := ⟨agg11, size11, bytes11, zero11, ⟨_, Tryz.underlying11, fun _ e => by cases e⟩⟩
def ti12 : TI := ⟨false, 1, 8, Value.int IntKind.u64 0, .int .u64⟩
theorem ti12_ok : TIOk Tryz.prog 12 ti12 := ⟨agg12, size12, bytes12, zero12, Tryz.underlying12⟩
def ti14 : TI := ⟨true, 2, 24, Value.agg #[Value.string { data := #[] }, Value.int IntKind.u64 0], .str [(0, 9), (1, 12)]⟩
theorem ti14_ok : TIOk Tryz.prog 14 ti14 := ⟨agg14, size14, bytes14, zero14, ⟨_, Tryz.underlying14, rfl⟩⟩
def ti15 : TI := ⟨false, 1, 8, Value.pointer Option.none, .ptr 253⟩
theorem ti15_ok : TIOk Tryz.prog 15 ti15 := ⟨agg15, size15, bytes15, zero15, Tryz.underlying15⟩
def ti16 : TI := ⟨false, 1, 8, Value.pointer Option.none, .ptr 256⟩
theorem ti16_ok : TIOk Tryz.prog 16 ti16 := ⟨agg16, size16, bytes16, zero16, Tryz.underlying16⟩
def ti17 : TI := ⟨false, 1, 8, Value.pointer Option.none, .ptr 265⟩
theorem ti17_ok : TIOk Tryz.prog 17 ti17 := ⟨agg17, size17, bytes17, zero17, Tryz.underlying17⟩
def ti19 : TI := ⟨true, 1, 8, Value.agg #[Value.pointer Option.none], .str [(0, 17)]⟩
theorem ti19_ok : TIOk Tryz.prog 19 ti19 := ⟨agg19, size19, bytes19, zero19, ⟨_, Tryz.underlying19, rfl⟩⟩
def ti20 : TI := ⟨false, 1, 16, Value.nilIface, .iface⟩
theorem ti20_ok : TIOk Tryz.prog 20 ti20 := ⟨agg20, size20, bytes20, zero20, ⟨_, Tryz.underlying20⟩⟩
def ti21 : TI := ⟨false, 1, 4, Value.int IntKind.i32 0, .int .i32⟩
theorem ti21_ok : TIOk Tryz.prog 21 ti21 := ⟨agg21, size21, bytes21, zero21, Tryz.underlying21⟩
def ti22 : TI := ⟨false, 1, 24, Value.slice Option.none 0 0, .slice 59⟩
theorem ti22_ok : TIOk Tryz.prog 22 ti22 := ⟨agg22, size22, bytes22, zero22, Tryz.underlying22⟩
def ti23 : TI := ⟨false, 1, 24, Value.slice Option.none 0 0, .slice 27⟩
theorem ti23_ok : TIOk Tryz.prog 23 ti23 := ⟨agg23, size23, bytes23, zero23, Tryz.underlying23⟩
def ti25 : TI := ⟨true, 6, 80, Value.agg #[Value.slice Option.none 0 0, Value.slice Option.none 0 0, Value.int IntKind.i64 0, Value.int IntKind.i64 0, Value.int IntKind.i64 0, Value.int IntKind.i64 0], .str [(0, 22), (1, 23), (2, 3), (3, 3), (4, 3), (5, 3)]⟩
theorem ti25_ok : TIOk Tryz.prog 25 ti25 := ⟨agg25, size25, bytes25, zero25, ⟨_, Tryz.underlying25, rfl⟩⟩
def ti27 : TI := ⟨true, 4, 32, Value.agg #[Value.int IntKind.i64 0, Value.int IntKind.i64 0, Value.int IntKind.i64 0, Value.int IntKind.i64 0], .str [(0, 3), (1, 3), (2, 3), (3, 3)]⟩
theorem ti27_ok : TIOk Tryz.prog 27 ti27 := ⟨agg27, size27, bytes27, zero27, ⟨_, Tryz.underlying27, rfl⟩⟩
def ti28 : TI := ⟨false, 1, 24, Value.slice Option.none 0 0, .slice 3⟩
theorem ti28_ok : TIOk Tryz.prog 28 ti28 := ⟨agg28, size28, bytes28, zero28, Tryz.underlying28⟩
def ti30 : TI := ⟨true, 2, 16, Value.agg #[Value.int IntKind.i64 0, Value.int IntKind.i64 0], .str [(0, 3), (1, 3)]⟩
theorem ti30_ok : TIOk Tryz.prog 30 ti30 := ⟨agg30, size30, bytes30, zero30, ⟨_, Tryz.underlying30, rfl⟩⟩
def ti33 : TI := ⟨false, 1, 8, Value.pointer Option.none, .ptr 98⟩
theorem ti33_ok : TIOk Tryz.prog 33 ti33 := ⟨agg33, size33, bytes33, zero33, Tryz.underlying33⟩
def ti35 : TI := ⟨false, 1, 24, Value.slice Option.none 0 0, .slice 25⟩
theorem ti35_ok : TIOk Tryz.prog 35 ti35 := ⟨agg35, size35, bytes35, zero35, Tryz.underlying35⟩
def ti36 : TI := ⟨false, 1, 24, Value.slice Option.none 0 0, .slice 28⟩
theorem ti36_ok : TIOk Tryz.prog 36 ti36 := ⟨agg36, size36, bytes36, zero36, Tryz.underlying36⟩
def ti41 : TI := ⟨false, 1, 24, Value.slice Option.none 0 0, .slice 30⟩
theorem ti41_ok : TIOk Tryz.prog 41 ti41 := ⟨agg41, size41, bytes41, zero41, Tryz.underlying41⟩
def ti44 : TI := ⟨false, 1, 8, Value.int IntKind.i64 0, .int .i64⟩
theorem ti44_ok : TIOk Tryz.prog 44 ti44 := ⟨agg44, size44, bytes44, zero44, Tryz.underlying44⟩
def ti59 : TI := ⟨true, 2, 16, Value.agg #[Value.int IntKind.i64 0, Value.int IntKind.i64 0], .str [(0, 3), (1, 3)]⟩
theorem ti59_ok : TIOk Tryz.prog 59 ti59 := ⟨agg59, size59, bytes59, zero59, ⟨_, Tryz.underlying59, rfl⟩⟩
def ti60 : TI := ⟨false, 1, 8, Value.nilFunc, .other⟩
theorem ti60_ok : TIOk Tryz.prog 60 ti60 := ⟨agg60, size60, bytes60, zero60, ⟨_, Tryz.underlying60, fun _ e => by cases e⟩⟩
def ti82 : TI := ⟨false, 1, 24, Value.slice Option.none 0 0, .slice 41⟩
theorem ti82_ok : TIOk Tryz.prog 82 ti82 := ⟨agg82, size82, bytes82, zero82, Tryz.underlying82⟩
def ti95 : TI := ⟨false, 1, 24, Value.slice Option.none 0 0, .slice 44⟩
theorem ti95_ok : TIOk Tryz.prog 95 ti95 := ⟨agg95, size95, bytes95, zero95, Tryz.underlying95⟩
def ti96 : TI := ⟨false, 1, 8, Value.int IntKind.u64 0, .int .u64⟩
theorem ti96_ok : TIOk Tryz.prog 96 ti96 := ⟨agg96, size96, bytes96, zero96, Tryz.underlying96⟩
def ti98 : TI := ⟨true, 3, 40, Value.agg #[Value.slice Option.none 0 0, Value.int IntKind.i64 0, Value.int IntKind.u64 0], .str [(0, 28), (1, 3), (2, 96)]⟩
theorem ti98_ok : TIOk Tryz.prog 98 ti98 := ⟨agg98, size98, bytes98, zero98, ⟨_, Tryz.underlying98, rfl⟩⟩
def ti101 : TI := ⟨false, 1, 8, Value.pointer Option.none, .ptr 142⟩
theorem ti101_ok : TIOk Tryz.prog 101 ti101 := ⟨agg101, size101, bytes101, zero101, Tryz.underlying101⟩
def ti107 : TI := ⟨false, 1, 16, Value.nilIface, .iface⟩
theorem ti107_ok : TIOk Tryz.prog 107 ti107 := ⟨agg107, size107, bytes107, zero107, ⟨_, Tryz.underlying107⟩⟩
def ti122 : TI := ⟨true, 6, 48, Value.agg #[Value.int IntKind.i64 0, Value.int IntKind.i64 0, Value.int IntKind.i64 0, Value.int IntKind.i64 0, Value.int IntKind.i64 0, Value.int IntKind.i64 0], .arr 3 30⟩
theorem ti122_ok : TIOk Tryz.prog 122 ti122 := ⟨agg122, size122, bytes122, zero122, Tryz.underlying122⟩
def ti124 : TI := ⟨true, 8, 64, Value.agg #[Value.int IntKind.i64 0, Value.int IntKind.i64 0, Value.int IntKind.i64 0, Value.int IntKind.i64 0, Value.int IntKind.i64 0, Value.int IntKind.i64 0, Value.int IntKind.i64 0, Value.bool Bool.false], .str [(0, 122), (6, 3), (7, 4)]⟩
theorem ti124_ok : TIOk Tryz.prog 124 ti124 := ⟨agg124, size124, bytes124, zero124, ⟨_, Tryz.underlying124, rfl⟩⟩
def ti126 : TI := ⟨false, 1, 8, Value.nilFunc, .other⟩
theorem ti126_ok : TIOk Tryz.prog 126 ti126 := ⟨agg126, size126, bytes126, zero126, ⟨_, Tryz.underlying126, fun _ e => by cases e⟩⟩
def ti128 : TI := ⟨false, 1, 1, Value.int IntKind.u8 0, .int .u8⟩
theorem ti128_ok : TIOk Tryz.prog 128 ti128 := ⟨agg128, size128, bytes128, zero128, Tryz.underlying128⟩
def ti130 : TI := ⟨false, 1, 8, Value.nilFunc, .other⟩
theorem ti130_ok : TIOk Tryz.prog 130 ti130 := ⟨agg130, size130, bytes130, zero130, ⟨_, Tryz.underlying130, fun _ e => by cases e⟩⟩
def ti139 : TI := ⟨true, 3, 72, Value.agg #[Value.slice Option.none 0 0, Value.slice Option.none 0 0, Value.slice Option.none 0 0], .arr 3 41⟩
theorem ti139_ok : TIOk Tryz.prog 139 ti139 := ⟨agg139, size139, bytes139, zero139, Tryz.underlying139⟩
def ti140 : TI := ⟨false, 1, 8, Value.map Option.none, .other⟩
theorem ti140_ok : TIOk Tryz.prog 140 ti140 := ⟨agg140, size140, bytes140, zero140, ⟨_, Tryz.underlying140, fun _ e => by cases e⟩⟩
def ti142 : TI := ⟨true, 11, 184, Value.agg #[Value.slice Option.none 0 0, Value.slice Option.none 0 0, Value.int IntKind.i64 0, Value.int IntKind.i64 0, Value.int IntKind.i64 0, Value.int IntKind.i64 0, Value.slice Option.none 0 0, Value.slice Option.none 0 0, Value.slice Option.none 0 0, Value.slice Option.none 0 0, Value.map Option.none], .str [(0, 25), (6, 28), (7, 139), (10, 140)]⟩
theorem ti142_ok : TIOk Tryz.prog 142 ti142 := ⟨agg142, size142, bytes142, zero142, ⟨_, Tryz.underlying142, rfl⟩⟩
def ti146 : TI := ⟨true, 4, 4, Value.agg #[Value.int IntKind.u8 0, Value.int IntKind.u8 0, Value.int IntKind.u8 0, Value.int IntKind.u8 0], .arr 4 128⟩
theorem ti146_ok : TIOk Tryz.prog 146 ti146 := ⟨agg146, size146, bytes146, zero146, Tryz.underlying146⟩
def ti148 : TI := ⟨true, 12, 12, Value.agg #[Value.int IntKind.u8 0, Value.int IntKind.u8 0, Value.int IntKind.u8 0, Value.int IntKind.u8 0, Value.int IntKind.u8 0, Value.int IntKind.u8 0, Value.int IntKind.u8 0, Value.int IntKind.u8 0, Value.int IntKind.u8 0, Value.int IntKind.u8 0, Value.int IntKind.u8 0, Value.int IntKind.u8 0], .arr 3 146⟩
theorem ti148_ok : TIOk Tryz.prog 148 ti148 := ⟨agg148, size148, bytes148, zero148, Tryz.underlying148⟩
def ti154 : TI := ⟨false, 1, 8, Value.int IntKind.u64 0, .int .u64⟩
theorem ti154_ok : TIOk Tryz.prog 154 ti154 := ⟨agg154, size154, bytes154, zero154, Tryz.underlying154⟩
def ti156 : TI := ⟨true, 2, 16, Value.agg #[Value.int IntKind.i64 0, Value.int IntKind.i64 0], .arr 2 3⟩
theorem ti156_ok : TIOk Tryz.prog 156 ti156 := ⟨agg156, size156, bytes156, zero156, Tryz.underlying156⟩
def ti158 : TI := ⟨true, 1, 8, Value.agg #[Value.int IntKind.i64 0], .str [(0, 3)]⟩
theorem ti158_ok : TIOk Tryz.prog 158 ti158 := ⟨agg158, size158, bytes158, zero158, ⟨_, Tryz.underlying158, rfl⟩⟩
def ti161 : TI := ⟨false, 1, 16, Value.nilIface, .iface⟩
theorem ti161_ok : TIOk Tryz.prog 161 ti161 := ⟨agg161, size161, bytes161, zero161, ⟨_, Tryz.underlying161⟩⟩
def ti163 : TI := ⟨false, 1, 8, Value.pointer Option.none, .ptr 158⟩
theorem ti163_ok : TIOk Tryz.prog 163 ti163 := ⟨agg163, size163, bytes163, zero163, Tryz.underlying163⟩
def ti164 : TI := ⟨true, 1, 8, Value.agg #[Value.int IntKind.i64 0], .str [(0, 3)]⟩
theorem ti164_ok : TIOk Tryz.prog 164 ti164 := ⟨agg164, size164, bytes164, zero164, ⟨_, Tryz.underlying164, rfl⟩⟩
def ti165 : TI := ⟨true, 1, 8, Value.agg #[Value.int IntKind.i64 0], .str [(0, 3)]⟩
theorem ti165_ok : TIOk Tryz.prog 165 ti165 := ⟨agg165, size165, bytes165, zero165, ⟨_, Tryz.underlying165, rfl⟩⟩
def ti166 : TI := ⟨true, 1, 8, Value.agg #[Value.int IntKind.i64 0], .str [(0, 3)]⟩
theorem ti166_ok : TIOk Tryz.prog 166 ti166 := ⟨agg166, size166, bytes166, zero166, ⟨_, Tryz.underlying166, rfl⟩⟩
def ti168 : TI := ⟨false, 1, 8, Value.nilFunc, .other⟩
theorem ti168_ok : TIOk Tryz.prog 168 ti168 := ⟨agg168, size168, bytes168, zero168, ⟨_, Tryz.underlying168, fun _ e => by cases e⟩⟩
def ti170 : TI := ⟨false, 1, 8, Value.chan Option.none, .other⟩
theorem ti170_ok : TIOk Tryz.prog 170 ti170 := ⟨agg170, size170, bytes170, zero170, ⟨_, Tryz.underlying170, fun _ e => by cases e⟩⟩
def ti171 : TI := ⟨false, 1, 8, Value.chan Option.none, .other⟩
theorem ti171_ok : TIOk Tryz.prog 171 ti171 := ⟨agg171, size171, bytes171, zero171, ⟨_, Tryz.underlying171, fun _ e => by cases e⟩⟩
def ti173 : TI := ⟨true, 0, 0, Value.agg #[], .str []⟩
theorem ti173_ok : TIOk Tryz.prog 173 ti173 := ⟨agg173, size173, bytes173, zero173, ⟨_, Tryz.underlying173, rfl⟩⟩
def ti174 : TI := ⟨true, 0, 0, Value.agg #[], .str []⟩
theorem ti174_ok : TIOk Tryz.prog 174 ti174 := ⟨agg174, size174, bytes174, zero174, ⟨_, Tryz.underlying174, rfl⟩⟩
def ti175 : TI := ⟨true, 0, 0, Value.agg #[], .str []⟩
theorem ti175_ok : TIOk Tryz.prog 175 ti175 := ⟨agg175, size175, bytes175, zero175, ⟨_, Tryz.underlying175, rfl⟩⟩
def ti177 : TI := ⟨true, 1, 8, Value.agg #[Value.int IntKind.u64 0], .str [(0, 174), (0, 175), (0, 96)]⟩
theorem ti177_ok : TIOk Tryz.prog 177 ti177 := ⟨agg177, size177, bytes177, zero177, ⟨_, Tryz.underlying177, rfl⟩⟩
def ti178 : TI := ⟨false, 1, 4, Value.int IntKind.u32 0, .int .u32⟩
theorem ti178_ok : TIOk Tryz.prog 178 ti178 := ⟨agg178, size178, bytes178, zero178, Tryz.underlying178⟩
def ti180 : TI := ⟨true, 2, 16, Value.agg #[Value.int IntKind.u64 0, Value.int IntKind.u32 0], .str [(0, 173), (0, 177), (1, 178)]⟩
theorem ti180_ok : TIOk Tryz.prog 180 ti180 := ⟨agg180, size180, bytes180, zero180, ⟨_, Tryz.underlying180, rfl⟩⟩
def ti182 : TI := ⟨false, 1, 24, Value.slice Option.none 0 0, .slice 4⟩
theorem ti182_ok : TIOk Tryz.prog 182 ti182 := ⟨agg182, size182, bytes182, zero182, Tryz.underlying182⟩
def ti184 : TI := ⟨true, 3, 40, Value.agg #[Value.slice Option.none 0 0, Value.int IntKind.i64 0, Value.bool Bool.false], .str [(0, 28), (1, 3), (2, 4)]⟩
theorem ti184_ok : TIOk Tryz.prog 184 ti184 := ⟨agg184, size184, bytes184, zero184, ⟨_, Tryz.underlying184, rfl⟩⟩
def ti187 : TI := ⟨false, 1, 8, Value.nilFunc, .other⟩
theorem ti187_ok : TIOk Tryz.prog 187 ti187 := ⟨agg187, size187, bytes187, zero187, ⟨_, Tryz.underlying187, fun _ e => by cases e⟩⟩
def ti188 : TI := ⟨false, 1, 8, Value.nilFunc, .other⟩
theorem ti188_ok : TIOk Tryz.prog 188 ti188 := ⟨agg188, size188, bytes188, zero188, ⟨_, Tryz.underlying188, fun _ e => by cases e⟩⟩
def ti190 : TI := ⟨false, 1, 8, Value.pointer Option.none, .ptr 148⟩
theorem ti190_ok : TIOk Tryz.prog 190 ti190 := ⟨agg190, size190, bytes190, zero190, Tryz.underlying190⟩
def ti192 : TI := ⟨false, 1, 8, Value.pointer Option.none, .ptr 124⟩
theorem ti192_ok : TIOk Tryz.prog 192 ti192 := ⟨agg192, size192, bytes192, zero192, Tryz.underlying192⟩
def ti196 : TI := ⟨false, 1, 8, Value.nilFunc, .other⟩
theorem ti196_ok : TIOk Tryz.prog 196 ti196 := ⟨agg196, size196, bytes196, zero196, ⟨_, Tryz.underlying196, fun _ e => by cases e⟩⟩
def ti199 : TI := ⟨true, 1, 8, Value.agg #[Value.int IntKind.i64 0], .str [(0, 44)]⟩
theorem ti199_ok : TIOk Tryz.prog 199 ti199 := ⟨agg199, size199, bytes199, zero199, ⟨_, Tryz.underlying199, rfl⟩⟩
def ti202 : TI := ⟨false, 1, 8, Value.pointer Option.none, .other⟩
theorem ti202_ok : TIOk Tryz.prog 202 ti202 := ⟨agg202, size202, bytes202, zero202, ⟨_, Tryz.underlying202, fun _ e => by cases e⟩⟩
def ti203 : TI := ⟨false, 1, 8, Value.int IntKind.u64 0, .int .u64⟩
theorem ti203_ok : TIOk Tryz.prog 203 ti203 := ⟨agg203, size203, bytes203, zero203, Tryz.underlying203⟩
def ti205 : TI := ⟨true, 3, 24, Value.agg #[Value.pointer Option.none, Value.pointer Option.none, Value.int IntKind.u64 0], .str [(0, 17), (1, 202), (2, 203)]⟩
theorem ti205_ok : TIOk Tryz.prog 205 ti205 := ⟨agg205, size205, bytes205, zero205, ⟨_, Tryz.underlying205, rfl⟩⟩
def ti208 : TI := ⟨false, 1, 16, Value.nilIface, .iface⟩
theorem ti208_ok : TIOk Tryz.prog 208 ti208 := ⟨agg208, size208, bytes208, zero208, ⟨_, Tryz.underlying208⟩⟩
def ti210 : TI := ⟨false, 1, 1, Value.int IntKind.u8 0, .int .u8⟩
theorem ti210_ok : TIOk Tryz.prog 210 ti210 := ⟨agg210, size210, bytes210, zero210, Tryz.underlying210⟩
def ti214 : TI := ⟨false, 1, 8, Value.nilFunc, .other⟩
theorem ti214_ok : TIOk Tryz.prog 214 ti214 := ⟨agg214, size214, bytes214, zero214, ⟨_, Tryz.underlying214, fun _ e => by cases e⟩⟩
def ti215 : TI := ⟨false, 1, 8, Value.pointer Option.none, .ptr 180⟩
theorem ti215_ok : TIOk Tryz.prog 215 ti215 := ⟨agg215, size215, bytes215, zero215, Tryz.underlying215⟩
def ti217 : TI := ⟨false, 1, 8, Value.int IntKind.i64 0, .int .i64⟩
theorem ti217_ok : TIOk Tryz.prog 217 ti217 := ⟨agg217, size217, bytes217, zero217, Tryz.underlying217⟩
def ti221 : TI := ⟨false, 1, 8, Value.pointer Option.none, .ptr 178⟩
theorem ti221_ok : TIOk Tryz.prog 221 ti221 := ⟨agg221, size221, bytes221, zero221, Tryz.underlying221⟩
def ti228 : TI := ⟨false, 1, 8, Value.pointer Option.none, .ptr 184⟩
theorem ti228_ok : TIOk Tryz.prog 228 ti228 := ⟨agg228, size228, bytes228, zero228, Tryz.underlying228⟩
def ti229 : TI := ⟨false, 1, 8, Value.nilFunc, .other⟩
theorem ti229_ok : TIOk Tryz.prog 229 ti229 := ⟨agg229, size229, bytes229, zero229, ⟨_, Tryz.underlying229, fun _ e => by cases e⟩⟩
def ti232 : TI := ⟨true, 1, 8, Value.agg #[Value.pointer Option.none], .str [(0, 17)]⟩
theorem ti232_ok : TIOk Tryz.prog 232 ti232 := ⟨agg232, size232, bytes232, zero232, ⟨_, Tryz.underlying232, rfl⟩⟩
def ti233 : TI := ⟨false, 1, 8, Value.pointer Option.none, .ptr 269⟩
theorem ti233_ok : TIOk Tryz.prog 233 ti233 := ⟨agg233, size233, bytes233, zero233, Tryz.underlying233⟩
def ti237 : TI := ⟨false, 1, 16, Value.nilIface, .iface⟩
theorem ti237_ok : TIOk Tryz.prog 237 ti237 := ⟨agg237, size237, bytes237, zero237, ⟨_, Tryz.underlying237⟩⟩
def ti240 : TI := ⟨false, 1, 16, Value.nilIface, .iface⟩
theorem ti240_ok : TIOk Tryz.prog 240 ti240 := ⟨agg240, size240, bytes240, zero240, ⟨_, Tryz.underlying240⟩⟩
def ti242 : TI := ⟨false, 1, 16, Value.nilIface, .iface⟩
theorem ti242_ok : TIOk Tryz.prog 242 ti242 := ⟨agg242, size242, bytes242, zero242, ⟨_, Tryz.underlying242⟩⟩
def ti243 : TI := ⟨false, 1, 24, Value.slice Option.none 0 0, .slice 161⟩
theorem ti243_ok : TIOk Tryz.prog 243 ti243 := ⟨agg243, size243, bytes243, zero243, Tryz.underlying243⟩
def ti245 : TI := ⟨false, 1, 8, Value.pointer Option.none, .ptr 177⟩
theorem ti245_ok : TIOk Tryz.prog 245 ti245 := ⟨agg245, size245, bytes245, zero245, Tryz.underlying245⟩
def ti247 : TI := ⟨false, 1, 8, Value.pointer Option.none, .ptr 96⟩
theorem ti247_ok : TIOk Tryz.prog 247 ti247 := ⟨agg247, size247, bytes247, zero247, Tryz.underlying247⟩
def ti253 : TI := ⟨true, 4, 40, Value.agg #[Value.pointer Option.none, Value.pointer Option.none, Value.pointer Option.none, Value.string { data := #[] }], .str [(0, 17), (1, 17), (2, 17), (3, 9)]⟩
theorem ti253_ok : TIOk Tryz.prog 253 ti253 := ⟨agg253, size253, bytes253, zero253, ⟨_, Tryz.underlying253, rfl⟩⟩
def ti254 : TI := ⟨true, 0, 0, Value.agg #[], .arr 0 16⟩
theorem ti254_ok : TIOk Tryz.prog 254 ti254 := ⟨agg254, size254, bytes254, zero254, Tryz.underlying254⟩
def ti256 : TI := ⟨true, 0, 0, Value.agg #[], .str [(0, 254)]⟩
theorem ti256_ok : TIOk Tryz.prog 256 ti256 := ⟨agg256, size256, bytes256, zero256, ⟨_, Tryz.underlying256, rfl⟩⟩
def ti259 : TI := ⟨false, 1, 1, Value.int IntKind.u8 0, .int .u8⟩
theorem ti259_ok : TIOk Tryz.prog 259 ti259 := ⟨agg259, size259, bytes259, zero259, Tryz.underlying259⟩
def ti260 : TI := ⟨false, 1, 8, Value.nilFunc, .other⟩
theorem ti260_ok : TIOk Tryz.prog 260 ti260 := ⟨agg260, size260, bytes260, zero260, ⟨_, Tryz.underlying260, fun _ e => by cases e⟩⟩
def ti261 : TI := ⟨false, 1, 8, Value.pointer Option.none, .ptr 5⟩
theorem ti261_ok : TIOk Tryz.prog 261 ti261 := ⟨agg261, size261, bytes261, zero261, Tryz.underlying261⟩
def ti262 : TI := ⟨false, 1, 4, Value.int IntKind.i32 0, .int .i32⟩
theorem ti262_ok : TIOk Tryz.prog 262 ti262 := ⟨agg262, size262, bytes262, zero262, Tryz.underlying262⟩
def ti263 : TI := ⟨false, 1, 4, Value.int IntKind.i32 0, .int .i32⟩
theorem ti263_ok : TIOk Tryz.prog 263 ti263 := ⟨agg263, size263, bytes263, zero263, Tryz.underlying263⟩
def ti265 : TI := ⟨true, 11, 48, Value.agg #[Value.int IntKind.u64 0, Value.int IntKind.u64 0, Value.int IntKind.u32 0, Value.int IntKind.u8 0, Value.int IntKind.u8 0, Value.int IntKind.u8 0, Value.int IntKind.u8 0, Value.nilFunc, Value.pointer Option.none, Value.int IntKind.i32 0, Value.int IntKind.i32 0], .str [(0, 12), (1, 12), (2, 178), (3, 259), (4, 5), (5, 5), (6, 210), (7, 260), (8, 261), (9, 262), (10, 263)]⟩
theorem ti265_ok : TIOk Tryz.prog 265 ti265 := ⟨agg265, size265, bytes265, zero265, ⟨_, Tryz.underlying265, rfl⟩⟩
def ti269 : TI := ⟨true, 2, 24, Value.agg #[Value.string { data := #[] }, Value.int IntKind.u8 0], .str [(0, 9), (1, 210)]⟩
theorem ti269_ok : TIOk Tryz.prog 269 ti269 := ⟨agg269, size269, bytes269, zero269, ⟨_, Tryz.underlying269, rfl⟩⟩
def ti270 : TI := ⟨false, 1, 8, Value.pointer Option.none, .ptr 274⟩
theorem ti270_ok : TIOk Tryz.prog 270 ti270 := ⟨agg270, size270, bytes270, zero270, Tryz.underlying270⟩
def ti272 : TI := ⟨false, 1, 2, Value.int IntKind.u16 0, .int .u16⟩
theorem ti272_ok : TIOk Tryz.prog 272 ti272 := ⟨agg272, size272, bytes272, zero272, Tryz.underlying272⟩
def ti274 : TI := ⟨true, 5, 16, Value.agg #[Value.int IntKind.i32 0, Value.int IntKind.u16 0, Value.int IntKind.u16 0, Value.int IntKind.u32 0, Value.int IntKind.u32 0], .str [(0, 262), (1, 272), (2, 272), (3, 178), (4, 178)]⟩
theorem ti274_ok : TIOk Tryz.prog 274 ti274 := ⟨agg274, size274, bytes274, zero274, ⟨_, Tryz.underlying274, rfl⟩⟩
def ti275 : TI := ⟨false, 1, 24, Value.slice Option.none 0 0, .slice 278⟩
theorem ti275_ok : TIOk Tryz.prog 275 ti275 := ⟨agg275, size275, bytes275, zero275, Tryz.underlying275⟩
def ti276 : TI := ⟨false, 1, 4, Value.int IntKind.i32 0, .int .i32⟩
theorem ti276_ok : TIOk Tryz.prog 276 ti276 := ⟨agg276, size276, bytes276, zero276, Tryz.underlying276⟩
def ti278 : TI := ⟨true, 4, 16, Value.agg #[Value.int IntKind.i32 0, Value.int IntKind.i32 0, Value.int IntKind.i32 0, Value.int IntKind.i32 0], .str [(0, 262), (1, 263), (2, 276), (3, 276)]⟩
theorem ti278_ok : TIOk Tryz.prog 278 ti278 := ⟨agg278, size278, bytes278, zero278, ⟨_, Tryz.underlying278, rfl⟩⟩
def ti279 : TI := ⟨false, 1, 8, Value.pointer Option.none, .ptr 161⟩
theorem ti279_ok : TIOk Tryz.prog 279 ti279 := ⟨agg279, size279, bytes279, zero279, Tryz.underlying279⟩
def tau : TT := (.node (.node (.node (.node (.node (.node (.node .nil 0 ti0 .nil) 1 ti1 (.node .nil 2 ti2 .nil)) 3 ti3 (.node (.node .nil 4 ti4 .nil) 5 ti5 .nil)) 6 ti6 (.node (.node (.node .nil 8 ti8 .nil) 9 ti9 (.node .nil 10 ti10 .nil)) 11 ti11 (.node (.node .nil 12 ti12 .nil) 14 ti14 .nil))) 15 ti15 (.node (.node (.node (.node .nil 16 ti16 .nil) 17 ti17 (.node .nil 19 ti19 .nil)) 20 ti20 (.node (.node .nil 21 ti21 .nil) 22 ti22 .nil)) 23 ti23 (.node (.node (.node .nil 25 ti25 .nil) 27 ti27 (.node .nil 28 ti28 .nil)) 30 ti30 (.node (.node .nil 33 ti33 .nil) 35 ti35 .nil)))) 36 ti36 (.node (.node (.node (.node (.node .nil 41 ti41 .nil) 44 ti44 (.node .nil 59 ti59 .nil)) 60 ti60 (.node (.node .nil 82 ti82 .nil) 95 ti95 .nil)) 96 ti96 (.node (.node (.node .nil 98 ti98 .nil) 101 ti101 (.node .nil 107 ti107 .nil)) 122 ti122 (.node (.node .nil 124 ti124 .nil) 126 ti126 .nil))) 128 ti128 (.node (.node (.node (.node .nil 130 ti130 .nil) 139 ti139 (.node .nil 140 ti140 .nil)) 142 ti142 (.node (.node .nil 146 ti146 .nil) 148 ti148 .nil)) 154 ti154 (.node (.node (.node .nil 156 ti156 .nil) 158 ti158 .nil) 161 ti161 (.node (.node .nil 163 ti163 .nil) 164 ti164 .nil))))) 165 ti165 (.node (.node (.node (.node (.node (.node .nil 166 ti166 .nil) 168 ti168 (.node .nil 170 ti170 .nil)) 171 ti171 (.node (.node .nil 173 ti173 .nil) 174 ti174 .nil)) 175 ti175 (.node (.node (.node .nil 177 ti177 .nil) 178 ti178 (.node .nil 180 ti180 .nil)) 182 ti182 (.node (.node .nil 184 ti184 .nil) 187 ti187 .nil))) 188 ti188 (.node (.node (.node (.node .nil 190 ti190 .nil) 192 ti192 (.node .nil 196 ti196 .nil)) 199 ti199 (.node (.node .nil 202 ti202 .nil) 203 ti203 .nil)) 205 ti205 (.node (.node (.node .nil 208 ti208 .nil) 210 ti210 (.node .nil 214 ti214 .nil)) 215 ti215 (.node (.node .nil 217 ti217 .nil) 221 ti221 .nil)))) 228 ti228 (.node (.node (.node (.node (.node .nil 229 ti229 .nil) 232 ti232 (.node .nil 233 ti233 .nil)) 237 ti237 (.node (.node .nil 240 ti240 .nil) 242 ti242 .nil)) 243 ti243 (.node (.node (.node .nil 245 ti245 .nil) 247 ti247 (.node .nil 253 ti253 .nil)) 254 ti254 (.node (.node .nil 256 ti256 .nil) 259 ti259 .nil))) 260 ti260 (.node (.node (.node (.node .nil 261 ti261 .nil) 262 ti262 (.node .nil 263 ti263 .nil)) 265 ti265 (.node (.node .nil 269 ti269 .nil) 270 ti270 .nil)) 272 ti272 (.node (.node (.node .nil 274 ti274 .nil) 275 ti275 .nil) 276 ti276 (.node (.node .nil 278 ti278 .nil) 279 ti279 .nil))))))
theorem tauOk : tau.Ok Tryz.prog := ⟨⟨⟨⟨⟨⟨⟨trivial, ti0_ok, trivial⟩, ti1_ok, ⟨trivial, ti2_ok, trivial⟩⟩, ti3_ok, ⟨⟨trivial, ti4_ok, trivial⟩, ti5_ok, trivial⟩⟩, ti6_ok, ⟨⟨⟨trivial, ti8_ok, trivial⟩, ti9_ok, ⟨trivial, ti10_ok, trivial⟩⟩, ti11_ok, ⟨⟨trivial, ti12_ok, trivial⟩, ti14_ok, trivial⟩⟩⟩, ti15_ok, ⟨⟨⟨⟨trivial, ti16_ok, trivial⟩, ti17_ok, ⟨trivial, ti19_ok, trivial⟩⟩, ti20_ok, ⟨⟨trivial, ti21_ok, trivial⟩, ti22_ok, trivial⟩⟩, ti23_ok, ⟨⟨⟨trivial, ti25_ok, trivial⟩, ti27_ok, ⟨trivial, ti28_ok, trivial⟩⟩, ti30_ok, ⟨⟨trivial, ti33_ok, trivial⟩, ti35_ok, trivial⟩⟩⟩⟩, ti36_ok, ⟨⟨⟨⟨⟨trivial, ti41_ok, trivial⟩, ti44_ok, ⟨trivial, ti59_ok, trivial⟩⟩, ti60_ok, ⟨⟨trivial, ti82_ok, trivial⟩, ti95_ok, trivial⟩⟩, ti96_ok, ⟨⟨⟨trivial, ti98_ok, trivial⟩, ti101_ok, ⟨trivial, ti107_ok, trivial⟩⟩, ti122_ok, ⟨⟨trivial, ti124_ok, trivial⟩, ti126_ok, trivial⟩⟩⟩, ti128_ok, ⟨⟨⟨⟨trivial, ti130_ok, trivial⟩, ti139_ok, ⟨trivial, ti140_ok, trivial⟩⟩, ti142_ok, ⟨⟨trivial, ti146_ok, trivial⟩, ti148_ok, trivial⟩⟩, ti154_ok, ⟨⟨⟨trivial, ti156_ok, trivial⟩, ti158_ok, trivial⟩, ti161_ok, ⟨⟨trivial, ti163_ok, trivial⟩, ti164_ok, trivial⟩⟩⟩⟩⟩, ti165_ok, ⟨⟨⟨⟨⟨⟨trivial, ti166_ok, trivial⟩, ti168_ok, ⟨trivial, ti170_ok, trivial⟩⟩, ti171_ok, ⟨⟨trivial, ti173_ok, trivial⟩, ti174_ok, trivial⟩⟩, ti175_ok, ⟨⟨⟨trivial, ti177_ok, trivial⟩, ti178_ok, ⟨trivial, ti180_ok, trivial⟩⟩, ti182_ok, ⟨⟨trivial, ti184_ok, trivial⟩, ti187_ok, trivial⟩⟩⟩, ti188_ok, ⟨⟨⟨⟨trivial, ti190_ok, trivial⟩, ti192_ok, ⟨trivial, ti196_ok, trivial⟩⟩, ti199_ok, ⟨⟨trivial, ti202_ok, trivial⟩, ti203_ok, trivial⟩⟩, ti205_ok, ⟨⟨⟨trivial, ti208_ok, trivial⟩, ti210_ok, ⟨trivial, ti214_ok, trivial⟩⟩, ti215_ok, ⟨⟨trivial, ti217_ok, trivial⟩, ti221_ok, trivial⟩⟩⟩⟩, ti228_ok, ⟨⟨⟨⟨⟨trivial, ti229_ok, trivial⟩, ti232_ok, ⟨trivial, ti233_ok, trivial⟩⟩, ti237_ok, ⟨⟨trivial, ti240_ok, trivial⟩, ti242_ok, trivial⟩⟩, ti243_ok, ⟨⟨⟨trivial, ti245_ok, trivial⟩, ti247_ok, ⟨trivial, ti253_ok, trivial⟩⟩, ti254_ok, ⟨⟨trivial, ti256_ok, trivial⟩, ti259_ok, trivial⟩⟩⟩, ti260_ok, ⟨⟨⟨⟨trivial, ti261_ok, trivial⟩, ti262_ok, ⟨trivial, ti263_ok, trivial⟩⟩, ti265_ok, ⟨⟨trivial, ti269_ok, trivial⟩, ti270_ok, trivial⟩⟩, ti272_ok, ⟨⟨⟨trivial, ti274_ok, trivial⟩, ti275_ok, trivial⟩, ti276_ok, ⟨⟨trivial, ti278_ok, trivial⟩, ti279_ok, trivial⟩⟩⟩⟩⟩⟩
instance : Seat Tryz.prog := ⟨tau, tauOk⟩
end Go.Mz


namespace Go.Mz
open Go.Conc
def Own (L : LH) (k : Nat) (e : TypeId) (v : Value) (len : Nat) (cs : List Value) : Option Nat → Prop
 | none => (∃ cap, v = .slice none 0 cap ∧ cap = 0) ∧ len = 0 ∧ cs = []
 | some b => ∃ (cap : Nat) (c : Array Value), v = .slice (some ⟨b, 0, none⟩) len cap ∧ L b = some (.cells c e (0, 0), true) ∧ c.size = cap * k ∧ len ≤ cap ∧ cs.length = len * k ∧ ∀ (i : Nat) (x : Value), cs[i]? = some x → c[i]? = some x
theorem Own.nil {L : LH} {k : Nat} {e : TypeId} : Own L k e (.slice none 0 0) 0 [] none := ⟨⟨0, rfl, rfl⟩, rfl, rfl⟩
theorem Own.len {L : LH} {k : Nat} {e : TypeId} {v : Value} {len : Nat} {cs : List Value} {ob : Option Nat} (h : Own L k e v len cs ob) : cs.length = len * k := by
 cases ob with
 | none => obtain ⟨_, rfl, rfl⟩ := h; simp
 | some b => obtain ⟨_, _, _, _, _, _, h, _⟩ := h; exact h
theorem Own.le {L L' : LH} {k : Nat} {e : TypeId} {v : Value} {len : Nat} {cs : List Value} {ob : Option Nat} (h : Own L k e v len cs ob) (hl : Le L L') : Own L' k e v len cs ob := by
 cases ob with
 | none => exact h
 | some b => obtain ⟨cap, c, h1, h2, h3⟩ := h; exact ⟨cap, c, h1, hl _ _ h2, h3⟩
theorem Own.keep {L L' : LH} {k : Nat} {e : TypeId} {v : Value} {len : Nat} {cs : List Value} {ob : Option Nat} (h : Own L k e v len cs ob) (hl : ∀ b, ob = some b → L' b = L b) : Own L' k e v len cs ob := by
 cases ob with
 | none => exact h
 | some b => obtain ⟨cap, c, h1, h2, h3⟩ := h; exact ⟨cap, c, h1, (hl b rfl).trans h2, h3⟩
theorem Own.slice {L : LH} {k : Nat} {e : TypeId} {v : Value} {len : Nat} {cs : List Value} {ob : Option Nat} (h : Own L k e v len cs ob) : ∃ ad cap, v = .slice ad len cap ∧ len ≤ cap := by
 cases ob with
 | none => obtain ⟨⟨cap, h1, h0⟩, h2, _⟩ := h; subst h2 h0; exact ⟨none, 0, h1, Nat.le_refl _⟩
 | some b => obtain ⟨cap, c, h1, _, _, h2, _⟩ := h; exact ⟨_, cap, h1, h2⟩
theorem Own.blk {L : LH} {k : Nat} {e : TypeId} {v : Value} {len : Nat} {cs : List Value} {b : Nat} (h : Own L k e v len cs (some b)) : L b ≠ none := by
 obtain ⟨cap, c, _, h1, _⟩ := h
 rw [h1]; simp
theorem flat_get {α : Type} {enc : α → List Value} {k : Nat} (hk : ∀ x, (enc x).length = k) : ∀ {l : List α} {i j : Nat} {x : α} {v : Value}, l[i]? = some x → (enc x)[j]? = some v → (l.flatMap enc)[i * k + j]? = some v
 | [], _, _, _, _, hx, _ => by simp at hx
 | y :: l, 0, j, x, v, hx, hv => by
  have hj : j < k := by
   have := (List.getElem?_eq_some_iff.1 hv).1
   rw [hk] at this; exact this
  simp only [List.getElem?_cons_zero, Option.some.injEq] at hx
  subst hx
  rw [List.flatMap_cons, Nat.zero_mul, Nat.zero_add, List.getElem?_append_left (by rw [hk]; exact hj)]
  exact hv
 | y :: l, i + 1, j, x, v, hx, hv => by
  rw [List.flatMap_cons, List.getElem?_append_right (by rw [hk, Nat.succ_mul]; omega), hk, Nat.succ_mul, show i * k + k + j - k = i * k + j by omega]
  exact flat_get hk (by simpa using hx) hv
theorem Own.at {α : Type} {L : LH} {k : Nat} {e : TypeId} {len : Nat} {ob : Option Nat} {enc : α → List Value} {l : List α} {ad : Option Addr} {cap : Nat} (h : Own L k e (.slice ad len cap) l.length (l.flatMap enc) ob) (hk : ∀ x, (enc x).length = k) : SlAt L ad k enc l := by
 intro i x hx
 cases ob with
 | none =>
  obtain ⟨_, h2, _⟩ := h
  have hlt := (List.getElem?_eq_some_iff.1 hx).1
  omega
 | some b =>
  obtain ⟨cap', c, h1, h2, h3, h4, h5, h6⟩ := h
  cases h1
  refine ⟨_, rfl, fun j v hv => ?_⟩
  rw [add_of]
  refine cell_of h2 ?_
  rw [Nat.zero_add]
  exact h6 _ _ (flat_get hk hx hv)
section
variable {P : Program} {R : LH} {H : Value → LH → Prop}
theorem wpS_choose {q : Question} {Q : Nat → LH → Prop} : wpS P Q H (choose q) R = ∀ n, Answers q n → Q n R := rfl
theorem wpS_askRoom {n : Nat} {Q : Unit → LH → Prop} (h : Q () R) : wpS P Q H (askRoom n) R := by
 unfold askRoom
 split
 ·exact ⟨.inl rfl, h⟩
 ·exact h
theorem growBy_le (m : Nat) : ∀ (r c : Nat), c < m → r ≤ 4 → Builtin.growBy m r c ≤ 2 * m + 1024
 | 0, c, h, _ => by unfold Builtin.growBy; omega
 | r + 1, c, h, hr => by
  unfold Builtin.growBy
  split
  ·omega
  ·by_cases h2 : c + (c + 768) / 4 < m
   ·exact growBy_le m r _ h2 (by omega)
   ·have : ∀ r c, m ≤ c → Builtin.growBy m r c = c := by
     intro r c hc
     cases r with
     | zero => rfl
     | succ r => unfold Builtin.growBy; rw [if_pos (by omega)]
    rw [this r _ (by omega)]
    omega
theorem nextcap_le {need old : Nat} (h : old < need) : Builtin.nextslicecap need old ≤ 2 * need + 1024 := by
 unfold Builtin.nextslicecap
 split
 ·omega
 ·split
  ·omega
  ·exact growBy_le _ _ _ h (Nat.le_refl _)
def FirstIs (P : Program) (R : LH) (k m : Nat) (yv : Value) (vs : List Value) : Prop := vs.length = m * k ∧ (∃ ad cap, yv = .slice ad m cap) ∧ ∀ (Q : Array Value → LH → Prop) (H : Value → LH → Prop), Q vs.toArray R → wpS P Q H (Builtin.firstCells k m yv) R
theorem FirstIs.at {k m : Nat} {ad : Addr} {cap : Nat} {vs : List Value} (h : cellsAt R ad (m * k) vs) : FirstIs P R k m (.slice (some ad) m cap) vs :=
 ⟨h.1, ⟨_, _, rfl⟩, fun Q H hq => by unfold Builtin.firstCells; rw [wpS_loadCells h]; exact hq⟩
theorem FirstIs.nil {k cap : Nat} : FirstIs P R k 0 (.slice none 0 cap) [] := ⟨by simp, ⟨_, _, rfl⟩, fun Q H hq => hq⟩
theorem Own.first {k : Nat} {e : TypeId} {v : Value} {len : Nat} {cs : List Value} {ob : Option Nat} (h : Own R k e v len cs ob) : FirstIs P R k len v cs := by
 cases ob with
 | none => obtain ⟨⟨cap, rfl, h0⟩, rfl, rfl⟩ := h; exact FirstIs.nil
 | some b =>
  obtain ⟨cap, c, rfl, h1, h2, h3, h4, h5⟩ := h
  exact FirstIs.at ⟨h4, fun i v hv => by rw [add_of]; exact cell_of h1 (by rw [Nat.zero_add]; exact h5 i v hv)⟩
structure AppR (k : Nat) (e : TypeId) (len : Nat) (cs : List Value) (ob : Option Nat) (m : Nat) (vs : List Value) (R : LH) (v : Value) (R' : LH) : Prop where
 own : ∃ ob', Own R' k e v (len + m) (cs ++ vs) ob' ∧ ((R' = R ∧ ob' = ob) ∨ ∃ b c, ob' = some b ∧ R' = R.put b (.cells c e) ∧ (ob = some b ∨ R b = none))
theorem putRow_get (vs : List Value) : ∀ (c : Array Value) (i j : Nat), (putRow c i vs)[j]? = if j < i then c[j]? else if h : j - i < vs.length ∧ j < c.size then some (vs[j - i]'h.1) else c[j]? := by
 induction vs with
 | nil => intro c i j; simp [putRow]
 | cons v vs ih =>
  intro c i j
  rw [putRow, ih]
  by_cases h1 : j < i
  ·rw [if_pos (by omega), if_pos h1, Array.getElem?_setIfInBounds_ne (by omega)]
  ·rw [if_neg h1]
   by_cases h2 : j = i
   ·subst h2
    rw [if_pos (by omega)]
    by_cases h3 : j < c.size
    ·rw [dif_pos ⟨by simp, h3⟩]
     simp [Array.getElem?_setIfInBounds, h3]
    ·rw [dif_neg (by omega)]
     simp [Array.getElem?_setIfInBounds, h3]
   ·rw [if_neg (by omega)]
    by_cases h3 : j - (i + 1) < vs.length ∧ j < c.size
    ·rw [dif_pos ⟨h3.1, by simpa using h3.2⟩, dif_pos ⟨by simp; omega, h3.2⟩]
     congr 1
     have e : j - i = (j - (i + 1)) + 1 := by omega
     simp only [e, List.getElem_cons_succ]
    ·rw [dif_neg (by simpa using h3)]
     rw [Array.getElem?_setIfInBounds_ne (by omega)]
     rw [dif_neg]
     intro h4
     apply h3
     simp at h4
     omega
theorem wpS_append {ts tx e e2 : TypeId} {k bts len m : Nat} {cs vs : List Value} {ob : Option Nat} {v yv z : Value} {ty : TypeId} {Q : Value → LH → Prop} (hts : P.underlying ts = some (.slice e)) (hk : (P.info? e).map (·.size) = some k) (hbt : (P.info? e).map (·.bytes) = some bts) (hz : (P.info? e).bind (·.zero) = some z) (hzk : z.cells.size = k) (htx : P.underlying tx = some (.slice e2))
  (ho : Own R k e v len cs ob) (hy : FirstIs P R k m yv vs) (hs : ∀ u ∈ vs, single u = true) (h0 : 0 < bts) (hb : (2 * (len + m) + 1024) * bts ≤ 2 ^ 48) (hq : ∀ v' R', AppR k e len cs ob m vs R v' R' → Q v' R') : wpS P Q H (Builtin.append_ #[ts, tx] ty #[v, yv]) R := by
 obtain ⟨hvl, ⟨yad, ycap, rfl⟩, hfirst⟩ := hy
 unfold Builtin.append_
 simp only [List.getElem?_toArray, List.getElem?_cons_zero, List.getElem?_cons_succ]
 rw [wpS_bind, wpS_underlying hts]
 simp only
 obtain ⟨ad, cap, rfl, hlc⟩ := ho.slice
 simp only
 rw [wpS_bind, wpS_sizeOf hk, wpS_bind, wpS_underlying htx, wpS_bind, wpS_pure]
 simp only [Bool.false_eq_true, if_false, Bool.not_false, if_true]
 rw [wpS_bind]
 unfold Builtin.lenOf
 rw [wpS_pure]
 by_cases hfit : len + m ≤ cap
 ·rw [if_pos hfit, wpS_bind]
  refine hfirst _ _ ?_
  cases ob with
  | none =>
   obtain ⟨⟨cap', h1, h0'⟩, h2, h3⟩ := ho
   cases h1
   clear h2
   subst h3 h0'
   have hm : m = 0 := by omega
   subst hm
   have hv0 : vs = [] := by cases vs with | nil => rfl | cons _ _ => simp at hvl
   subst hv0
   refine hq _ _ ⟨none, ⟨⟨0, rfl, rfl⟩, rfl, rfl⟩, .inl ⟨rfl, rfl⟩⟩
  | some b =>
   obtain ⟨_, c, h1, h2, h3, h4, h5, h6⟩ := ho
   cases h1
   simp only
   rw [wpS_bind]
   rw [add_of, Nat.zero_add]
   have hmul : len * k + m * k ≤ cap * k := by rw [← Nat.add_mul]; exact Nat.mul_le_mul_right _ hfit
   refine wpS_storeCells (e := e) vs 0 c R h2 (by rw [hvl, h3]; omega) hs (fun R' g1 g2 => ?_)
   rw [wpS_pure]
   rw [Nat.add_zero] at g1
   refine hq _ _ ⟨some b, ⟨cap, _, rfl, g1, by rw [putRow_size, h3], hfit, by rw [List.length_append, h5, hvl, Nat.add_mul], fun i x hx => ?_⟩, .inr ⟨b, putRow c (len * k) vs, rfl, ?_, .inl rfl⟩⟩
   ·rw [putRow_get]
    by_cases hi : i < len * k
    ·rw [if_pos hi]
     rw [List.getElem?_append_left (by omega)] at hx
     exact h6 i x hx
    ·rw [List.getElem?_append_right (by omega), h5] at hx
     have hlt := (List.getElem?_eq_some_iff.1 hx).1
     rw [if_neg hi, dif_pos ⟨hlt, by rw [h3]; omega⟩]
     rw [← List.getElem?_eq_getElem hlt]; exact hx
   ·funext b'
    by_cases e' : b' = b
    ·subst e'; rw [g1, put_same]
    ·rw [g2 b' e', put_ne _ _ e']
 ·rw [if_neg hfit]
  obtain ⟨inf, hinf, hib⟩ : ∃ inf, P.info? e = some inf ∧ inf.bytes = bts := by
   cases hx : P.info? e with
   | none => rw [hx] at hbt; cases hbt
   | some i => rw [hx] at hbt; cases hbt; exact ⟨i, rfl, rfl⟩
  have hnb : ¬ (inf.bytes = 0) := by omega
  rw [wpS_bind, wpS_typeInfo hinf, if_neg (by simp [hnb]), wpS_bind, wpS_typeInfo hinf]
  have hcap := nextcap_le (need := len + m) (old := cap) (by omega)
  have hle : Builtin.nextslicecap (len + m) cap * inf.bytes ≤ 2 ^ 48 := Nat.le_trans (by rw [hib]; exact Nat.mul_le_mul_right _ hcap) hb
  rw [if_neg (by omega), wpS_bind, wpS_choose]
  intro newCap hnc
  obtain ⟨r, rfl⟩ : ∃ r, newCap = len + m + r := by
   unfold Answers at hnc
   simp only [Question.forced, Bool.false_eq_true, if_false, Question.cut] at hnc
   obtain ⟨t, ht⟩ := hnc
   exact ⟨_, ht⟩
  rw [wpS_bind, wpS_typeInfo hinf, wpS_bind]
  refine wpS_askRoom ?_
  rw [wpS_bind]
  refine (ho.first (P := P)).2.2 _ _ ?_
  rw [wpS_bind]
  refine hfirst _ _ ?_
  rw [wpS_bind, wpS_zeroValue hz, wpS_bind, wpS_newRow]
  intro b hb'
  rw [wpS_pure]
  have hcl := ho.len
  refine hq _ _ ⟨some b, ⟨len + m + r, _, rfl, put_same _ _ _, ?_, by omega, by rw [List.length_append, hcl, hvl, Nat.add_mul], fun i x hx => ?_⟩, .inr ⟨b, _, rfl, rfl, .inr hb'⟩⟩
  ·simp only [Builtin.zeroCells, Array.size_append, List.size_toArray, Array.size_map, Array.size_range, hcl, hvl, hzk]
   rw [show len + m + r - (len + m) = r by omega, Nat.add_mul, Nat.add_mul]
  ·have hlt := (List.getElem?_eq_some_iff.1 hx).1
   rw [← Array.getElem?_toList, Array.toList_append, Array.toList_append, List.getElem?_append_left (by simpa using hlt)]
   exact hx
end
inductive YC (E : Look) (B : List (Option Bx)) (L : LH) (k : Nat) (y : Operand) : Nat → List Value → Prop
 | own {kk off m cap : Nat} {bx : Bx} {svs : List SV} {vs : List Value} (hy : evS E y = some (.sl kk off m cap)) (hb : nth B kk = some (some bx)) (hp : part bx.cells off (m * k) = some svs) (hd : denL nm0 svs = some vs) : YC E B L k y m vs
 | far {a : Addr} {m cap : Nat} {vs : List Value} (hy : evS E y = some (.v (.slice (some a) m cap))) (hc : cellsAt L a (m * k) vs) : YC E B L k y m vs
 | nil {cap : Nat} (hy : evS E y = some (.v (.slice none 0 cap))) : YC E B L k y 0 []
theorem flat_len {α : Type} {enc : α → List Value} {k : Nat} (hk : ∀ x, (enc x).length = k) : ∀ l : List α, (l.flatMap enc).length = l.length * k
 | [] => by simp
 | x :: l => by rw [List.flatMap_cons, List.length_append, hk, flat_len hk l, List.length_cons, Nat.succ_mul]; omega
theorem flat_cell {α : Type} {enc : α → List Value} {k : Nat} (hk : ∀ x, (enc x).length = k) (h0 : 0 < k) {l : List α} {n : Nat} {v : Value} (h : (l.flatMap enc)[n]? = some v) : ∃ i j x, n = i * k + j ∧ l[i]? = some x ∧ (enc x)[j]? = some v := by
 have hlt := (List.getElem?_eq_some_iff.1 h).1
 rw [flat_len hk] at hlt
 have hi : n / k < l.length := Nat.div_lt_of_lt_mul (by rw [Nat.mul_comm]; exact hlt)
 refine ⟨n / k, n % k, l[n / k], by rw [Nat.mul_comm]; exact (Nat.div_add_mod n k).symm, List.getElem?_eq_getElem hi, ?_⟩
 have hj : n % k < (enc l[n / k]).length := by rw [hk]; exact Nat.mod_lt _ h0
 have := flat_get hk (List.getElem?_eq_getElem hi) (List.getElem?_eq_getElem hj)
 rw [show n / k * k + n % k = n by rw [Nat.mul_comm]; exact Nat.div_add_mod n k, h] at this
 rw [List.getElem?_eq_getElem hj]; exact this.symm
theorem SlAt.cells {α : Type} {enc : α → List Value} {k : Nat} {L : LH} {a : Addr} {l : List α} (h : SlAt L (some a) k enc l) (hk : ∀ x, (enc x).length = k) : cellsAt L a (l.length * k) (l.flatMap enc) := by
 refine ⟨flat_len hk l, fun n v hv => ?_⟩
 rcases Nat.eq_zero_or_pos k with rfl | h0
 ·have hlt := (List.getElem?_eq_some_iff.1 hv).1
  rw [flat_len hk] at hlt
  omega
 ·obtain ⟨i, j, x, rfl, hx, hj⟩ := flat_cell hk h0 hv
  exact h.get hx hj
theorem YC.sl {α : Type} {enc : α → List Value} {k cap : Nat} {E : Look} {B : List (Option Bx)} {L : LH} {y : Operand} {ad : Option Addr} {l : List α} (h : SlAt L ad k enc l) (hk : ∀ x, (enc x).length = k) (hy : evS E y = some (.v (.slice ad l.length cap))) : YC E B L k y l.length (l.flatMap enc) := by
 cases ad with
 | none =>
  cases l with
  | nil => exact .nil hy
  | cons x l => obtain ⟨a, h1⟩ := h.addr (i := 0) (by simp); cases h1
 | some a => exact .far hy (h.cells hk)
def Grow {α : Type} (I : LH) (k : Nat) (e : TypeId) (enc : α → List Value) (L : LH) (v : Value) (l : List α) : Prop := Le I L ∧ ∃ ob, Own L k e v l.length (l.flatMap enc) ob ∧ ∀ b, ob = some b → I b = none
section
variable {α : Type} {I L L' : LH} {k : Nat} {e : TypeId} {enc : α → List Value} {v : Value} {l : List α}
theorem Grow.nil (h : Le I L) : Grow I k e enc L (.slice none 0 0) [] := ⟨h, none, Own.nil, fun b hb => by cases hb⟩
theorem Grow.new {b : Nat} (h : Le I L) (hb : L b = some (.cells #[] e (0, 0), true)) (hn : I b = none) : Grow I k e enc L (.slice (some ⟨b, 0, none⟩) 0 0) [] := ⟨h, some b, ⟨0, #[], rfl, hb, by simp, Nat.le_refl _, by simp, fun i x hx => by simp at hx⟩, fun b' hb' => by cases hb'; exact hn⟩
theorem Grow.le (h : Grow I k e enc L v l) (hl : Le L L') : Grow I k e enc L' v l := let ⟨h1, ob, h2, h3⟩ := h; ⟨h1.trans hl, ob, h2.le hl, h3⟩
theorem Grow.slice (h : Grow I k e enc L v l) : ∃ ad cap, v = .slice ad l.length cap ∧ l.length ≤ cap := let ⟨_, _, h2, _⟩ := h; h2.slice
theorem Grow.at {ad : Option Addr} {len cap : Nat} (h : Grow I k e enc L (.slice ad len cap) l) (hk : ∀ x, (enc x).length = k) : len = l.length ∧ SlAt L ad k enc l := by
 obtain ⟨_, ob, h2, _⟩ := h
 obtain ⟨ad', cap', h3, _⟩ := h2.slice
 cases h3
 exact ⟨rfl, h2.at hk⟩
end
section
variable {P : Program} [S : Seat P] {C : Cx P} {E : Look} {B : List (Option Bx)} {L : LH} {dst : Option Tmp} {ty : TypeId} {pos : String} {af : Array Edge} {gd : Option (Nat × Bool)}
omit S in
theorem YC.first {k m : Nat} {y : Operand} {vs : List Value} (h : YC E B L k y m vs) {T : Array Value} {R : LH} {β : Nm} (hE : EnvOk β E T) (hB : Boxes β B R) (hL : Le L R) : FirstIs P R k m (ev T y) vs := by
 cases h with
 | own hy hb hp hd =>
  rename_i kk off cap bx svs
  have hv := hE.val hy
  unfold den at hv
  cases hk : β kk with
  | none => rw [hk] at hv; cases hv
  | some b =>
   rw [hk] at hv
   have hv' := (Option.some.inj hv).symm
   rw [hv']
   obtain ⟨cs, hc, hR⟩ := hB kk b bx hk (by rw [← nth_eq]; exact hb)
   obtain ⟨ws, h1, h2⟩ := denL_part hc hp
   rw [denL_nil hd β] at h1
   cases h1
   refine FirstIs.at ⟨by rw [denL_length hd, part_length hp], fun i v hv => ?_⟩
   rw [add_of]
   exact cell_of hR (by rw [List.getElem?_toArray]; exact h2 i v hv)
 | far hy hc =>
  have hv := (Option.some.inj (hE.val hy)).symm
  rw [hv]
  exact FirstIs.at (hL.cellsAt hc)
 | nil hy =>
  have hv := (Option.some.inj (hE.val hy)).symm
  rw [hv]
  exact FirstIs.nil
def GrowQ {α : Type} (B : List (Option Bx)) (L : LH) (I : LH) (k : Nat) (e : TypeId) (enc : α → List Value) (l : List α) (sv : SV) (B' : List (Option Bx)) (L' : LH) : Prop := ∃ v, sv = .v v ∧ B' = B ∧ Grow I k e enc L' v l ∧ (∀ b, L b ≠ none → L' b ≠ none)
theorem Ef.grow {α : Type} {I : LH} {enc : α → List Value} {l ls : List α} {ts tx e e2 : TypeId} {ti te tx' : TI} {v : Value} {x y : Operand} (hx : evS E x = some (.v v)) (hts : S.τ.find ts = some ti) (hd : ti.d = .slice e) (he : S.τ.find e = some te) (htx : S.τ.find tx = some tx') (hd2 : tx'.d = .slice e2) (hz : te.z.cells.size = te.size)
  (h0 : Nat.blt 0 te.bytes = true) (h1 : Nat.ble te.bytes 1024 = true) (hk : ∀ x, (enc x).length = te.size) (hs : ∀ x, ∀ u ∈ enc x, single u = true) (hg : Grow I te.size e enc L v l) (hy : YC E B L te.size y ls.length (ls.flatMap enc)) (hlen : l.length + ls.length ≤ 1073741824) :
  Ef C ⟨dst, .call { callee := .builtin .append, args := #[x, y], argTypes := #[ts, tx] }, ty, pos, af, gd⟩ E B L (GrowQ B L I te.size e enc (l ++ ls)) := by
 intro T R β hE hH
 obtain ⟨hI, ob, ho, hn⟩ := hg
 have ex : ev T x = v := (Option.some.inj (hE.val hx)).symm
 have fy := hy.first (P := P) hE hH.boxes hH.le
 have i1 := (TT.find_ok S.ok hts).d
 rw [hd] at i1
 have i2 := (TT.find_ok S.ok htx).d
 rw [hd2] at i2
 have ie := TT.find_ok S.ok he
 refine ⟨rfl, ?_⟩
 simp only [execOp, resolve, List.map_toArray, List.map_cons, List.map_nil, ex, pure, Sem.bind, bind, invoke, builtin]
 show wpS P _ _ (Builtin.append_ _ _ _ >>= fun u => pure (Next.value u)) R
 rw [wpS_bind]
 refine wpS_append i1 ie.size ie.bytes ie.zero hz i2 (ho.le hH.le) fy (fun u hu => ?_) (Nat.le_of_ble_eq_true h0) ?_ fun v' R' hr => ?_
 ·obtain ⟨a, _, hu⟩ := List.mem_flatMap.1 hu
  exact hs a u hu
 ·have := Nat.le_of_ble_eq_true h1
  have h2 : 2 * (l.length + ls.length) + 1024 ≤ 2147484672 := by omega
  exact Nat.le_trans (Nat.mul_le_mul h2 this) (by decide)
 ·rw [wpS_pure]
  obtain ⟨ob', g1, g2⟩ := hr
  rcases g2 with ⟨rfl, rfl⟩ | ⟨b, c, rfl, rfl, g3⟩
  ·refine ⟨.v v', B, L, ⟨v', rfl, rfl, ⟨hI, ob', ?_, hn⟩, fun _ h => h⟩, rfl, hH, fun _ _ => rfl⟩
   rw [List.length_append, List.flatMap_append]
   cases ob' with
   | none => exact g1
   | some b =>
    have hb := ho.blk
    cases hx : L b with
    | none => exact absurd hx hb
    | some y => exact g1.keep fun b' hb' => by cases hb'; rw [hx, hH.le _ _ hx]
  ·have hown : ∀ L', L' b = some (.cells c e (0, 0), true) → Own L' te.size e v' (l ++ ls).length ((l ++ ls).flatMap enc) (some b) := fun L' hL' => by
    rw [List.length_append, List.flatMap_append]
    exact g1.keep fun b' hb' => by cases hb'; rw [hL', put_same]
   rcases g3 with rfl | g3
   ·have hLb : ∃ o, L b = some (o, true) := by
     obtain ⟨_, c', _, h2, _⟩ := ho
     exact ⟨_, h2⟩
    obtain ⟨o, hLb⟩ := hLb
    have hIb := hn b rfl
    refine ⟨.v v', B, L.put b (.cells c e), ⟨v', rfl, rfl, ⟨fun b' x hx => ?_, some b, hown _ (put_same _ _ _), fun b' hb' => by cases hb'; exact hIb⟩, fun b' hb' => ?_⟩, rfl, hH.setF hLb (put_same _ _ _) (fun b' hb' => put_ne _ _ hb'), fun _ _ => rfl⟩
    ·rw [put_ne _ _ (fun e => by subst e; rw [hIb] at hx; cases hx)]; exact hI b' x hx
    ·by_cases e' : b' = b
     ·subst e'; rw [put_same]; simp
     ·rw [put_ne _ _ e']; exact hb'
   ·have hLn := (hH.free g3).1
    refine ⟨.v v', B, L.put b (.cells c e), ⟨v', rfl, rfl, ⟨hI.trans (Le.put hLn _), some b, hown _ (put_same _ _ _), fun b' hb' => by cases hb'; exact none_of_le hI hLn⟩, fun b' hb' => ?_⟩, rfl, hH.newF g3 _, fun _ _ => rfl⟩
    by_cases e' : b' = b
    ·subst e'; rw [put_same]; simp
    ·rw [put_ne _ _ e']; exact hb'
end
end Go.Mz


set_option maxRecDepth 100000
namespace Go.Mz
open Go.Conc Go.Proofs
section
variable {P : Program} {H : Value → LH → Prop} {L : LH}
theorem eqIn_int {d : Nat} {t : TypeId} {k : IntKind} {a c : Int} {Q : Bool → LH → Prop} (hu : P.underlying t = some (.int k)) : wpS P Q H (Op.equalIn (d + 1) t (.int k a) (.int k c)) L = Q (a == c) L := by
 rw [Op.equalIn, wpS_bind, wpS_underlying hu]
 simp only [if_true]
 rfl
theorem wpS_part1 {t : TypeId} {cs : Array Value} {off : Nat} {v : Value} {Q : Value → LH → Prop} (ha : aggB P t = some false) (h : cs[off]? = some v) : wpS P Q H (Go.part t cs off) L = Q v L := by
 unfold Go.part
 rw [wpS_bind, wpS_isAgg ha]
 simp only [Bool.false_eq_true, if_false, h]
 rfl
theorem wpS_partN {t : TypeId} {cs : Array Value} {off n : Nat} {Q : Value → LH → Prop} (ha : aggB P t = some true) (hn : (P.info? t).map (·.size) = some n) : wpS P Q H (Go.part t cs off) L = Q (.agg (cs.extract off (off + n))) L := by
 unfold Go.part
 rw [wpS_bind, wpS_isAgg ha]
 simp only [if_true]
 rw [wpS_bind, wpS_sizeOf hn]
 rfl
def numFs (P : Program) (xs : List Int) (fs : List Field) : Prop := ∀ f ∈ fs, f.name ≠ "_" ∧ P.underlying f.type = some (.int .i64) ∧ aggB P f.type = some false ∧ f.offset < xs.length
def eqFs (xs ys : List Int) (fs : List Field) : Bool := fs.all fun f => xs[f.offset]? == ys[f.offset]?
def intsV (xs : List Int) : Value := .agg (xs.map (Value.int .i64)).toArray
theorem eqIn_struct {t : TypeId} {fs : Array Field} {n : Nat} {xs ys : List Int} {Q : Bool → LH → Prop} (hu : P.underlying t = some (.struct fs)) (hp : P.stoodInHeld t = false) (hx : numFs P xs fs.toList) (hy : numFs P ys fs.toList) :
    wpS P Q H (Op.equalIn (n + 2) t (intsV xs) (intsV ys)) L = Q (eqFs xs ys fs.toList) L := by
  unfold intsV
  rw [Op.equalIn, wpS_bind, wpS_underlying hu, wpS_bind, wpS_program]
  simp only [hp, Bool.false_eq_true, if_false]
  rw [wpS_bind, ← Array.forIn_toList]
  generalize hfl : fs.toList = fl at hx hy
  clear hfl hu
  suffices h : ∀ (Q' : Option Bool × Unit → LH → Prop), wpS P Q' H (forIn fl ((none, ()) : Option Bool × Unit) fun f __s =>
                  if f.name ≠ "_" then do
                    let __do_lift ← Go.part f.type (xs.map (Value.int .i64)).toArray f.offset
                    let __do_lift_1 ← Go.part f.type (ys.map (Value.int .i64)).toArray f.offset
                    let __do_lift ← Op.equalIn (n + 1) f.type __do_lift __do_lift_1
                    if (!__do_lift) = true then pure (ForInStep.done (some false, ()))
                      else pure (ForInStep.yield (none, ()))
                  else pure (ForInStep.yield (none, ()))) L = if eqFs xs ys fl then Q' (none, ()) L else Q' (some false, ()) L by
    rw [h]
    cases eqFs xs ys fl <;> rfl
  intro Q'
  induction fl with
  | nil => rfl
  | cons f fl ih =>
    obtain ⟨n1, n2, n3, n4⟩ := hx f (List.mem_cons_self ..)
    obtain ⟨_, _, _, m4⟩ := hy f (List.mem_cons_self ..)
    rw [List.forIn_cons, wpS_bind]
    simp only [n1, ne_eq, not_false_eq_true, if_true]
    rw [wpS_bind, wpS_part1 (v := .int .i64 xs[f.offset]) n3 (by simp [n4]), wpS_bind, wpS_part1 (v := .int .i64 ys[f.offset]) n3 (by simp [m4]), wpS_bind, eqIn_int n2]
    unfold eqFs
    rw [List.all_cons]
    by_cases e : xs[f.offset] = ys[f.offset]
    · have e1 : (xs[f.offset] == ys[f.offset]) = true := by simpa using e
      have e2 : (xs[f.offset]? == ys[f.offset]?) = true := by rw [List.getElem?_eq_getElem n4, List.getElem?_eq_getElem m4]; simpa using e
      rw [e1, e2, Bool.true_and]
      exact ih (fun g hg => hx g (List.mem_cons_of_mem _ hg)) (fun g hg => hy g (List.mem_cons_of_mem _ hg))
    · have e1 : (xs[f.offset] == ys[f.offset]) = false := by simpa using e
      have e2 : (xs[f.offset]? == ys[f.offset]?) = false := by rw [List.getElem?_eq_getElem n4, List.getElem?_eq_getElem m4]; simpa using e
      rw [e1, e2, Bool.false_and]
      rfl
end
theorem eq30 {a b c d : Int} {n : Nat} {Q : Bool → LH → Prop} {H : Value → LH → Prop} {L : LH} : wpS Tryz.prog Q H (Op.equalIn (n + 2) 30 (intsV [a, b]) (intsV [c, d])) L = Q (a == c && b == d) L := by
 rw [eqIn_struct Tryz.underlying30 (by kernel_rfl) (fun f hf => ?_) (fun f hf => ?_)]
 ·simp [eqFs]
 all_goals
  simp only [List.mem_cons, List.not_mem_nil, or_false] at hf
  rcases hf with rfl | rfl
  all_goals exact ⟨by decide, Tryz.underlying3, agg3, by simp⟩
theorem eq122 {a b c d e f a' b' c' d' e' f' : Int} {n : Nat} {Q : Bool → LH → Prop} {H : Value → LH → Prop} {L : LH} : wpS Tryz.prog Q H (Op.equalIn (n + 3) 122 (intsV [a, b, c, d, e, f]) (intsV [a', b', c', d', e', f'])) L = Q ((a == a' && b == b') && ((c == c' && d == d') && (e == e' && f == f'))) L := by
 unfold intsV
 rw [Op.equalIn, wpS_bind, wpS_underlying Tryz.underlying122, wpS_bind, wpS_sizeOf size30, wpS_bind]
 simp only [Std.Legacy.Range.forIn_eq_forIn_range', Std.Legacy.Range.size, Nat.sub_zero, Nat.add_sub_cancel, Nat.div_one, List.range'_succ, List.range'_zero, List.forIn_cons, List.forIn_nil]
 rw [wpS_bind, wpS_bind, wpS_partN agg30 size30, wpS_bind, wpS_partN agg30 size30, wpS_bind]
 show wpS Tryz.prog _ H (Op.equalIn (n + 2) 30 (intsV [a, b]) (intsV [a', b'])) L = _
 rw [eq30]
 cases e1 : (a == a' && b == b')
 ·rfl
 rw [Bool.true_and]
 show wpS Tryz.prog _ H (_ >>= _) L = _
 rw [wpS_bind, wpS_bind, wpS_partN agg30 size30, wpS_bind, wpS_partN agg30 size30, wpS_bind]
 show wpS Tryz.prog _ H (Op.equalIn (n + 2) 30 (intsV [c, d]) (intsV [c', d'])) L = _
 rw [eq30]
 cases e2 : (c == c' && d == d')
 ·rfl
 rw [Bool.true_and]
 show wpS Tryz.prog _ H (_ >>= _) L = _
 rw [wpS_bind, wpS_bind, wpS_partN agg30 size30, wpS_bind, wpS_partN agg30 size30, wpS_bind]
 show wpS Tryz.prog _ H (Op.equalIn (n + 2) 30 (intsV [e, f]) (intsV [e', f'])) L = _
 rw [eq30]
 cases e3 : (e == e' && f == f')
 ·rfl
 ·rfl
section
variable {P : Program} {E : Look} {B : List (Option Bx)} {L : LH}
theorem Vf.eqS {t t2 : TypeId} {op : BinOp} {x y : Operand} {sx sy : SV} {xs ys : List Int} {c : Bool} (hop : op = .eql ∨ op = .neq) (hx : evS E x = some sx) (dx : den nm0 sx = some (intsV xs)) (hy : evS E y = some sy) (dy : den nm0 sy = some (intsV ys)) (hg : P.eqGuardType P.depth t = false)
  (he : ∀ (n : Nat) (Q : Bool → LH → Prop) (H : Value → LH → Prop) (R : LH), wpS P Q H (Op.equalIn (n + 3) t (intsV xs) (intsV ys)) R = Q c R) : Vf P (.binOp op t x y t2) E B L (.v (.bool (eqC op c))) := fun T R β hE _ _ => by
 have ex : ev T x = intsV xs := Option.some.inj ((hE.val hx).symm.trans (den_nil dx β))
 have ey : ev T y = intsV ys := Option.some.inj ((hE.val hy).symm.trans (den_nil dy β))
 refine ⟨_, rfl, fun ty dst pos af gd Q H hq => ?_⟩
 simp only [execOp, ex, ey]
 rw [wpS_bind, wpS_bind]
 have hgd : wpS P (fun _ L' => wpS P (fun b L' => wpS P Q H (pure (Next.value b)) L') H (binOp op t (intsV xs) (intsV ys)) L') H (eqGuard op t x y (intsV xs) (intsV ys)) R = wpS P (fun b L' => wpS P Q H (pure (Next.value b)) L') H (binOp op t (intsV xs) (intsV ys)) R := by
  unfold eqGuard intsV
  rcases hop with rfl | rfl <;> (show wpS P _ H (program >>= _) R = _; rw [wpS_bind, wpS_program, wpS_bind, wpS_program, hg]; rfl)
 rw [hgd]
 rcases hop with rfl | rfl
 ·show wpS P _ H (do pure (Value.bool (← Op.equal t (intsV xs) (intsV ys)))) R
  unfold Op.equal
  simp only [wpS_bind, wpS_pure]
  rw [show Op.maxDepth = 9997 + 3 from rfl, he]
  exact hq
 ·show wpS P _ H (do pure (Value.bool (!(← Op.equal t (intsV xs) (intsV ys))))) R
  unfold Op.equal
  simp only [wpS_bind, wpS_pure]
  rw [show Op.maxDepth = 9997 + 3 from rfl, he]
  exact hq
end
end Go.Mz


set_option maxRecDepth 100000
namespace Go.Mz
open Go.Conc Go.Proofs
section
variable {P : Program} {H : Value → LH → Prop} {L : LH}
theorem wpS_getMap {r : Nat} {es : Array MapEntry} {clk : Nat} {wr : Bool} {Q : Obj → LH → Prop} (h : L r = some (.map es clk, wr)) : wpS P Q H (getObj r) L = Q (.map es clk) L := by
 show wpS P Q H (.getObj r .pure) L = _
 unfold wpS
 rw [h]
 rfl
variable {E : Look} {B : List (Option Bx)}
theorem Vf.lookup {t kt et : TypeId} {x y : Operand} {r : Nat} {sk : SV} {kv z : Value} {es : Array MapEntry} {clk : Nat} {wr : Bool} {res : Option (Nat × Value)} (hx : evS E x = some (.v (.map (some r)))) (hy : evS E y = some sk) (dk : den nm0 sk = some kv) (hu : P.underlying t = some (.map kt et)) (hL : L r = some (.map es clk, wr)) (hz : (P.info? et).bind (·.zero) = some z)
  (hc : ∀ (e : Bool) (Q : Unit → LH → Prop) (H : Value → LH → Prop) (R : LH), wpS P Q H (Instr.checkKey e 10000 kt kv) R = Q () R) (hf : ∀ (Q : Option (Nat × Value) → LH → Prop) (H : Value → LH → Prop) (R : LH), wpS P Q H (Instr.findKey kt kv es.toList) R = Q res R) :
  Vf P (.lookup t x y true) E B L (.v (.tuple #[(res.map (·.2)).getD z, .bool res.isSome])) := fun T R β hE _ hR => by
 have ex := (Option.some.inj (hE.val hx)).symm
 have ey : ev T y = kv := Option.some.inj ((hE.val hy).symm.trans (den_nil dk β))
 refine ⟨_, rfl, fun ty dst pos af gd Q H hq => ?_⟩
 simp only [execOp, ex, ey]
 rw [wpS_bind]
 unfold Instr.lookup
 rw [wpS_bind, wpS_underlying hu]
 simp only
 rw [wpS_bind, wpS_getMap (hR _ _ hL)]
 show wpS P _ H (Instr.checkKey es.isEmpty 10000 kt kv >>= _) R
 rw [wpS_bind, hc, wpS_bind, hf]
 cases res with
 | none => simp only; rw [wpS_bind, wpS_zeroValue hz]; exact hq
 | some p => exact hq
variable {C : Cx P} {dst : Option Tmp} {ty : TypeId} {pos : String} {af : Array Edge} {gd : Option (Nat × Bool)}
theorem Ef.mapNew {t kt et : TypeId} {x y u : Operand} {r : Nat} {sk su : SV} {kv uv : Value} {es : Array MapEntry} {clk : Nat} (hx : evS E x = some (.v (.map (some r)))) (hy : evS E y = some sk) (dk : den nm0 sk = some kv) (hw : evS E u = some su) (du : den nm0 su = some uv) (hu : P.underlying t = some (.map kt et)) (hL : L r = some (.map es clk, true))
  (hc : ∀ (e : Bool) (Q : Unit → LH → Prop) (H : Value → LH → Prop) (R : LH), wpS P Q H (Instr.checkKey e 10000 kt kv) R = Q () R) (hf : ∀ (Q : Option (Nat × Value) → LH → Prop) (H : Value → LH → Prop) (R : LH), wpS P Q H (Instr.findKey kt kv es.toList) R = Q none R) :
  Ef C ⟨dst, .mapUpdate t x y u, ty, pos, af, gd⟩ E B L (StoQ (L.put r (.map (es.push { key := kv, val := uv, born := clk }) (clk + 1))) B) := by
 intro T R β hE hH
 have ex := (Option.some.inj (hE.val hx)).symm
 have ey : ev T y = kv := Option.some.inj ((hE.val hy).symm.trans (den_nil dk β))
 have eu : ev T u = uv := Option.some.inj ((hE.val hw).symm.trans (den_nil du β))
 refine ⟨rfl, ?_⟩
 simp only [execOp, ex, ey, eu]
 rw [wpS_bind]
 unfold Instr.mapUpdate
 rw [wpS_bind, wpS_underlying hu]
 simp only
 rw [wpS_bind, wpS_getMap (hH.le _ _ hL)]
 simp only
 rw [wpS_bind, hc, wpS_bind, hf]
 simp only
 rw [wpS_setObj (hH.le _ _ hL) rfl rfl]
 exact ⟨.v undef, B, _, ⟨rfl, rfl, rfl⟩, rfl, hH.setF hL (put_same _ _ _) (fun b' hb' => put_ne R _ hb'), fun _ _ => rfl⟩
end
section
variable {P : Program} [S : Seat P] {C : Cx P} {E : Look} {B : List (Option Bx)} {L : LH} {dst : Option Tmp} {ty : TypeId} {pos : String} {af : Array Edge} {gd : Option (Nat × Bool)}
theorem Ef.stoL {t e : TypeId} {x y : Operand} {ti : TI} {b off : Nat} {cs cs' us : List Value} {v : Value} (hx : evS E x = some (.v (.pointer (some ⟨b, off, none⟩)))) (hy : ∃ s, evS E y = some s ∧ den nm0 s = some v) (ht : S.τ.find t = some ti) (hb : L b = some (.cells cs.toArray e (0, 0), true)) (hu : v.cells = us.toArray) (hn : Nat.beq us.length ti.size = true) (hl : Nat.ble (off + ti.size) cs.length = true)
  (hs : us.all single = true) (hc : putV cs off us = cs') : Ef C ⟨dst, .store t x y, ty, pos, af, gd⟩ E B L (StoQ (L.put b (.cells cs'.toArray e)) B) := by
 have := Ef.stoF (C := C) (B := B) (dst := dst) (ty := ty) (pos := pos) (af := af) (gd := gd) hx hy ht hb (by rw [hu, List.size_toArray]; exact Nat.eq_of_beq_eq_true hn) (by rw [List.size_toArray]; exact Nat.le_of_ble_eq_true hl) (by rw [hu]; intro u h; exact List.all_eq_true.1 hs u (by simpa using h))
 have e1 : putRow cs.toArray off v.cells.toList = cs'.toArray := by
  apply Array.toList_inj.1
  rw [putRow_toList, hu, hc]
 rw [e1] at this
 exact this
end
section
variable {P : Program} {E : Look} {B : List (Option Bx)} {L : LH}
theorem Vf.index {t e : TypeId} {x y : Operand} {sx : SV} {cs : List Value} {v : Value} {n i : Nat} {k : IntKind} (hx : evS E x = some sx) (dx : den nm0 sx = some (.agg cs.toArray)) (hy : evS E y = some (.v (.int k i))) (hu : P.underlying t = some (.array n e)) (hs : (P.info? e).map (·.size) = some 1) (ha : aggB P e = some false) (hi : i < n) (hv : cs[i]? = some v) :
  Vf P (.index t x y) E B L (.v v) := fun T R β hE _ _ => by
 have ex : ev T x = .agg cs.toArray := Option.some.inj ((hE.val hx).symm.trans (den_nil dx β))
 have ey := (Option.some.inj (hE.val hy)).symm
 refine ⟨_, rfl, fun ty dst pos af gd Q H hq => ?_⟩
 simp only [execOp, ex, ey]
 rw [wpS_bind]
 unfold Instr.index
 rw [wpS_bind]
 show wpS P _ H (underlying t >>= _) R
 rw [wpS_bind, wpS_underlying hu]
 simp only
 rw [if_pos (by omega), wpS_bind, wpS_sizeOf hs, wpS_part1 ha (v := v) (by rw [Int.toNat_natCast, Nat.mul_one, List.getElem?_toArray]; exact hv)]
 exact hq
end
def LH.but (L : LH) (b : Nat) : LH := fun b' => if b' = b then none else L b'
theorem but_le (L : LH) (b : Nat) : Le (L.but b) L := fun b' x hx => by
 unfold LH.but at hx
 split at hx
 ·cases hx
 ·exact hx
theorem but_get {L : LH} {b b' : Nat} (h : b' ≠ b) : L.but b b' = L b' := by unfold LH.but; rw [if_neg h]
theorem but_cell {L : LH} {b : Nat} {a : Addr} {v : Value} (h : L.cell? a = some v) (hb : a.block ≠ b) : (L.but b).cell? a = some v := by
 unfold LH.cell? at h ⊢
 rw [but_get hb]; exact h
theorem but_put {L : LH} {b : Nat} {o : Obj} : Le (L.but b) (L.put b o) := fun b' x hx => by
 unfold LH.but at hx
 split at hx
 ·cases hx
 ·rename_i e; rw [put_ne _ _ e]; exact hx
theorem key122 {a b c d e f : Int} (em : Bool) (Q : Unit → LH → Prop) (H : Value → LH → Prop) (R : LH) : wpS Tryz.prog Q H (Instr.checkKey em 10000 122 (intsV [a, b, c, d, e, f])) R = Q () R := by
 kernel_rfl
section
variable {P : Program} {H : Value → LH → Prop} {L : LH} {E : Look} {B : List (Option Bx)}
theorem wpS_sliceBound {k : IntKind} {j : Int} {y : Nat} {code : BoundsCode} {Q : Nat → LH → Prop} (h : 0 ≤ j ∧ j ≤ y) : wpS P Q H (Instr.sliceBound (.int k j) y code) L = Q j.toNat L := by
 unfold Instr.sliceBound
 rw [wpS_bind]
 show wpS P Q H (if 0 ≤ j ∧ j ≤ y then _ else _) L = _
 rw [if_pos h]; rfl
theorem Vf.sliceA {t e : TypeId} {x y : Operand} {ad : Addr} {n m j : Nat} {k : IntKind} (hx : evS E x = some (.v (.pointer (some ad)))) (hy : evS E y = some (.v (.int k j))) (hu : P.underlying t = some (.array n e)) (hs : (P.info? e).map (·.size) = some m) (hj : j ≤ n) (hn : n ≠ 0) :
  Vf P (.slice t x none (some y) none) E B L (.v (.slice (some ad) j n)) := fun T R β hE _ _ => by
 have ex := (Option.some.inj (hE.val hx)).symm
 have ey := (Option.some.inj (hE.val hy)).symm
 refine ⟨_, rfl, fun ty dst pos af gd Q H hq => ?_⟩
 simp only [execOp, ex, Option.map_some, Option.map_none, ey]
 rw [wpS_bind]
 unfold Instr.sliceAt
 rw [wpS_bind, wpS_underlying hu]
 simp only
 rw [wpS_bind]
 show wpS P _ H (Instr.sliceBounds false n n none (some (.int k j)) none >>= _) R
 rw [wpS_bind]
 unfold Instr.sliceBounds
 simp only
 show wpS P _ H (Instr.sliceBound (.int k j) n _ >>= _) R
 rw [wpS_bind, wpS_sliceBound (by omega)]
 show wpS P _ H (sizeOf e >>= _) R
 rw [wpS_bind, wpS_sizeOf hs]
 rw [if_neg (by omega)]
 have e0 : ad.add (0 * m) = ad := by rw [Nat.zero_mul]; rfl
 rw [e0, Int.toNat_natCast]
 exact hq
theorem Vf.sliceW {t e : TypeId} {x : Operand} {ad : Addr} {n m : Nat} (hx : evS E x = some (.v (.pointer (some ad)))) (hu : P.underlying t = some (.array n e)) (hs : (P.info? e).map (·.size) = some m) (hn : n ≠ 0) :
  Vf P (.slice t x none none none) E B L (.v (.slice (some ad) n n)) := fun T R β hE _ _ => by
 have ex := (Option.some.inj (hE.val hx)).symm
 refine ⟨_, rfl, fun ty dst pos af gd Q H hq => ?_⟩
 simp only [execOp, ex, Option.map_none]
 rw [wpS_bind]
 unfold Instr.sliceAt
 rw [wpS_bind, wpS_underlying hu]
 simp only
 rw [wpS_bind]
 show wpS P _ H (sizeOf e >>= _) R
 rw [wpS_bind, wpS_sizeOf hs]
 rw [if_neg (by omega)]
 have e0 : ad.add (0 * m) = ad := by rw [Nat.zero_mul]; rfl
 rw [e0]
 exact hq
theorem Vf.slice3 {t e : TypeId} {x y u : Operand} {oa : Option Addr} {len cap m j c : Nat} {k k' : IntKind} (hx : evS E x = some (.v (.slice oa len cap))) (hy : evS E y = some (.v (.int k j))) (hw : evS E u = some (.v (.int k' c))) (hu : P.underlying t = some (.slice e)) (hs : (P.info? e).map (·.size) = some m) (hj : j ≤ c) (hc : c ≤ cap) :
  Vf P (.slice t x none (some y) (some u)) E B L (.v (.slice oa j c)) := fun T R β hE _ _ => by
 have ex := (Option.some.inj (hE.val hx)).symm
 have ey := (Option.some.inj (hE.val hy)).symm
 have eu := (Option.some.inj (hE.val hw)).symm
 refine ⟨_, rfl, fun ty dst pos af gd Q H hq => ?_⟩
 simp only [execOp, ex, Option.map_some, Option.map_none, ey, eu]
 rw [wpS_bind]
 unfold Instr.sliceAt
 rw [wpS_bind, wpS_underlying hu]
 simp only
 unfold Instr.slice
 rw [wpS_bind, wpS_underlying hu]
 simp only
 rw [wpS_bind]
 unfold Instr.sliceBounds
 simp only
 rw [wpS_bind, wpS_sliceBound (by omega), wpS_bind, Int.toNat_natCast, wpS_sliceBound (by omega), Int.toNat_natCast]
 show wpS P _ H (sizeOf e >>= _) R
 rw [wpS_bind, wpS_sizeOf hs]
 have e0 : (if c = 0 then oa else oa.map fun x => x.add (0 * m)) = oa := by
  split
  ·rfl
  ·cases oa with
   | none => rfl
   | some a => rw [Nat.zero_mul]; rfl
 rw [e0]
 exact hq
end
end Go.Mz

