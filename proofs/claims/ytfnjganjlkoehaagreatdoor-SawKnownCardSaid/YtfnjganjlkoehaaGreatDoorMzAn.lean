/- Lemmas on which the claim leans. -/
import Derived.Test.YtfnjganjlkoehaaGreatDoorMzAm
import Derived.Test.YtfnjganjlkoehaaGreatDoorProg
import Derived.KernelRfl
namespace Go.Mz
open Go.Proofs
theorem agg0 : aggB Tryz.prog 0 = some false := agg_of Tryz.underlying0 rfl
theorem size0 : (Tryz.prog.info? 0).map (·.size) = some 1 := by kernel_rfl
theorem zero0 : (Tryz.prog.info? 0).bind (·.zero) = Option.some (Go.Value.tuple #[]) := by kernel_rfl
theorem bytes0 : (Tryz.prog.info? 0).map (·.bytes) = some 0 := by kernel_rfl
theorem agg1 : aggB Tryz.prog 1 = some false := agg_of Tryz.underlying1 rfl
theorem size1 : (Tryz.prog.info? 1).map (·.size) = some 1 := by kernel_rfl
theorem zero1 : (Tryz.prog.info? 1).bind (·.zero) = Option.some Go.Value.nilFunc := by kernel_rfl
theorem bytes1 : (Tryz.prog.info? 1).map (·.bytes) = some 8 := by kernel_rfl
theorem agg2 : aggB Tryz.prog 2 = some false := agg_of Tryz.underlying2 rfl
theorem size2 : (Tryz.prog.info? 2).map (·.size) = some 1 := by kernel_rfl
theorem zero2 : (Tryz.prog.info? 2).bind (·.zero) = Option.some (Go.Value.int Go.IntKind.i64 0) := by kernel_rfl
theorem bytes2 : (Tryz.prog.info? 2).map (·.bytes) = some 8 := by kernel_rfl
theorem agg3 : aggB Tryz.prog 3 = some false := agg_of Tryz.underlying3 rfl
theorem size3 : (Tryz.prog.info? 3).map (·.size) = some 1 := by kernel_rfl
theorem zero3 : (Tryz.prog.info? 3).bind (·.zero) = Option.some (Go.Value.int Go.IntKind.i64 0) := by kernel_rfl
theorem bytes3 : (Tryz.prog.info? 3).map (·.bytes) = some 8 := by kernel_rfl
theorem agg4 : aggB Tryz.prog 4 = some false := agg_of Tryz.underlying4 rfl
theorem size4 : (Tryz.prog.info? 4).map (·.size) = some 1 := by kernel_rfl
theorem zero4 : (Tryz.prog.info? 4).bind (·.zero) = Option.some (Go.Value.bool Bool.false) := by kernel_rfl
theorem bytes4 : (Tryz.prog.info? 4).map (·.bytes) = some 1 := by kernel_rfl
theorem agg5 : aggB Tryz.prog 5 = some false := agg_of Tryz.underlying5 rfl
theorem size5 : (Tryz.prog.info? 5).map (·.size) = some 1 := by kernel_rfl
theorem zero5 : (Tryz.prog.info? 5).bind (·.zero) = Option.some (Go.Value.int Go.IntKind.u8 0) := by kernel_rfl
theorem bytes5 : (Tryz.prog.info? 5).map (·.bytes) = some 1 := by kernel_rfl
theorem agg6 : aggB Tryz.prog 6 = some false := agg_of Tryz.underlying6 rfl
theorem size6 : (Tryz.prog.info? 6).map (·.size) = some 1 := by kernel_rfl
theorem zero6 : (Tryz.prog.info? 6).bind (·.zero) = Option.some (Go.Value.int Go.IntKind.u8 0) := by kernel_rfl
theorem bytes6 : (Tryz.prog.info? 6).map (·.bytes) = some 1 := by kernel_rfl
theorem agg8 : aggB Tryz.prog 8 = some true := agg_of Tryz.underlying8 rfl
theorem size8 : (Tryz.prog.info? 8).map (·.size) = some 4 := by kernel_rfl
theorem zero8 : (Tryz.prog.info? 8).bind (·.zero) = Option.some (Go.Value.agg #[Go.Value.int Go.IntKind.i64 0, Go.Value.int Go.IntKind.i64 0, Go.Value.bool Bool.false, Go.Value.int Go.IntKind.u8 0]) := by kernel_rfl
theorem bytes8 : (Tryz.prog.info? 8).map (·.bytes) = some 24 := by kernel_rfl
theorem agg9 : aggB Tryz.prog 9 = some false := agg_of Tryz.underlying9 rfl
theorem size9 : (Tryz.prog.info? 9).map (·.size) = some 1 := by kernel_rfl
theorem zero9 : (Tryz.prog.info? 9).bind (·.zero) = Option.some (Go.Value.string { data := #[] }) := by kernel_rfl
theorem bytes9 : (Tryz.prog.info? 9).map (·.bytes) = some 16 := by kernel_rfl
theorem agg10 : aggB Tryz.prog 10 = some false := agg_of Tryz.underlying10 rfl
theorem size10 : (Tryz.prog.info? 10).map (·.size) = some 1 := by kernel_rfl
theorem zero10 : (Tryz.prog.info? 10).bind (·.zero) = Option.some (Go.Value.string { data := #[] }) := by kernel_rfl
theorem bytes10 : (Tryz.prog.info? 10).map (·.bytes) = some 16 := by kernel_rfl
theorem agg11 : aggB Tryz.prog 11 = some false := agg_of Tryz.underlying11 rfl
theorem size11 : (Tryz.prog.info? 11).map (·.size) = some 1 := by kernel_rfl
theorem zero11 : (Tryz.prog.info? 11).bind (·.zero) = Option.some (Go.Value.string { data := #[] }) := by kernel_rfl
theorem bytes11 : (Tryz.prog.info? 11).map (·.bytes) = some 16 := by kernel_rfl
theorem agg12 : aggB Tryz.prog 12 = some false := agg_of Tryz.underlying12 rfl
theorem size12 : (Tryz.prog.info? 12).map (·.size) = some 1 := by kernel_rfl
theorem zero12 : (Tryz.prog.info? 12).bind (·.zero) = Option.some (Go.Value.int Go.IntKind.u64 0) := by kernel_rfl
theorem bytes12 : (Tryz.prog.info? 12).map (·.bytes) = some 8 := by kernel_rfl
theorem agg14 : aggB Tryz.prog 14 = some true := agg_of Tryz.underlying14 rfl
theorem size14 : (Tryz.prog.info? 14).map (·.size) = some 2 := by kernel_rfl
theorem zero14 : (Tryz.prog.info? 14).bind (·.zero) = Option.some (Go.Value.agg #[Go.Value.string { data := #[] }, Go.Value.int Go.IntKind.u64 0]) := by kernel_rfl
theorem bytes14 : (Tryz.prog.info? 14).map (·.bytes) = some 24 := by kernel_rfl
theorem agg15 : aggB Tryz.prog 15 = some false := agg_of Tryz.underlying15 rfl
theorem size15 : (Tryz.prog.info? 15).map (·.size) = some 1 := by kernel_rfl
theorem zero15 : (Tryz.prog.info? 15).bind (·.zero) = Option.some (Go.Value.pointer Option.none) := by kernel_rfl
theorem bytes15 : (Tryz.prog.info? 15).map (·.bytes) = some 8 := by kernel_rfl
theorem agg16 : aggB Tryz.prog 16 = some false := agg_of Tryz.underlying16 rfl
theorem size16 : (Tryz.prog.info? 16).map (·.size) = some 1 := by kernel_rfl
theorem zero16 : (Tryz.prog.info? 16).bind (·.zero) = Option.some (Go.Value.pointer Option.none) := by kernel_rfl
theorem bytes16 : (Tryz.prog.info? 16).map (·.bytes) = some 8 := by kernel_rfl
theorem agg17 : aggB Tryz.prog 17 = some false := agg_of Tryz.underlying17 rfl
theorem size17 : (Tryz.prog.info? 17).map (·.size) = some 1 := by kernel_rfl
theorem zero17 : (Tryz.prog.info? 17).bind (·.zero) = Option.some (Go.Value.pointer Option.none) := by kernel_rfl
theorem bytes17 : (Tryz.prog.info? 17).map (·.bytes) = some 8 := by kernel_rfl
theorem agg19 : aggB Tryz.prog 19 = some true := agg_of Tryz.underlying19 rfl
theorem size19 : (Tryz.prog.info? 19).map (·.size) = some 1 := by kernel_rfl
theorem zero19 : (Tryz.prog.info? 19).bind (·.zero) = Option.some (Go.Value.agg #[Go.Value.pointer Option.none]) := by kernel_rfl
theorem bytes19 : (Tryz.prog.info? 19).map (·.bytes) = some 8 := by kernel_rfl
theorem agg20 : aggB Tryz.prog 20 = some false := agg_of Tryz.underlying20 rfl
theorem size20 : (Tryz.prog.info? 20).map (·.size) = some 1 := by kernel_rfl
theorem zero20 : (Tryz.prog.info? 20).bind (·.zero) = Option.some Go.Value.nilIface := by kernel_rfl
theorem bytes20 : (Tryz.prog.info? 20).map (·.bytes) = some 16 := by kernel_rfl
theorem agg21 : aggB Tryz.prog 21 = some false := agg_of Tryz.underlying21 rfl
theorem size21 : (Tryz.prog.info? 21).map (·.size) = some 1 := by kernel_rfl
theorem zero21 : (Tryz.prog.info? 21).bind (·.zero) = Option.some (Go.Value.int Go.IntKind.i32 0) := by kernel_rfl
theorem bytes21 : (Tryz.prog.info? 21).map (·.bytes) = some 4 := by kernel_rfl
theorem agg22 : aggB Tryz.prog 22 = some false := agg_of Tryz.underlying22 rfl
theorem size22 : (Tryz.prog.info? 22).map (·.size) = some 1 := by kernel_rfl
theorem zero22 : (Tryz.prog.info? 22).bind (·.zero) = Option.some (Go.Value.slice Option.none 0 0) := by kernel_rfl
theorem bytes22 : (Tryz.prog.info? 22).map (·.bytes) = some 24 := by kernel_rfl
theorem agg23 : aggB Tryz.prog 23 = some false := agg_of Tryz.underlying23 rfl
theorem size23 : (Tryz.prog.info? 23).map (·.size) = some 1 := by kernel_rfl
theorem zero23 : (Tryz.prog.info? 23).bind (·.zero) = Option.some (Go.Value.slice Option.none 0 0) := by kernel_rfl
theorem bytes23 : (Tryz.prog.info? 23).map (·.bytes) = some 24 := by kernel_rfl
theorem agg24 : aggB Tryz.prog 24 = some false := agg_of Tryz.underlying24 rfl
theorem size24 : (Tryz.prog.info? 24).map (·.size) = some 1 := by kernel_rfl
theorem zero24 : (Tryz.prog.info? 24).bind (·.zero) = Option.some (Go.Value.slice Option.none 0 0) := by kernel_rfl
theorem bytes24 : (Tryz.prog.info? 24).map (·.bytes) = some 24 := by kernel_rfl
theorem agg26 : aggB Tryz.prog 26 = some true := agg_of Tryz.underlying26 rfl
theorem size26 : (Tryz.prog.info? 26).map (·.size) = some 4 := by kernel_rfl
theorem zero26 : (Tryz.prog.info? 26).bind (·.zero) = Option.some (Go.Value.agg #[Go.Value.slice Option.none 0 0, Go.Value.slice Option.none 0 0, Go.Value.int Go.IntKind.i64 0, Go.Value.slice Option.none 0 0]) := by kernel_rfl
theorem bytes26 : (Tryz.prog.info? 26).map (·.bytes) = some 80 := by kernel_rfl
theorem agg28 : aggB Tryz.prog 28 = some true := agg_of Tryz.underlying28 rfl
theorem size28 : (Tryz.prog.info? 28).map (·.size) = some 4 := by kernel_rfl
theorem zero28 : (Tryz.prog.info? 28).bind (·.zero) = Option.some (Go.Value.agg #[Go.Value.int Go.IntKind.i64 0, Go.Value.int Go.IntKind.i64 0, Go.Value.int Go.IntKind.i64 0, Go.Value.int Go.IntKind.i64 0]) := by kernel_rfl
theorem bytes28 : (Tryz.prog.info? 28).map (·.bytes) = some 32 := by kernel_rfl
theorem agg31 : aggB Tryz.prog 31 = some false := agg_of Tryz.underlying31 rfl
theorem size31 : (Tryz.prog.info? 31).map (·.size) = some 1 := by kernel_rfl
theorem zero31 : (Tryz.prog.info? 31).bind (·.zero) = Option.some (Go.Value.pointer Option.none) := by kernel_rfl
theorem bytes31 : (Tryz.prog.info? 31).map (·.bytes) = some 8 := by kernel_rfl
theorem agg33 : aggB Tryz.prog 33 = some false := agg_of Tryz.underlying33 rfl
theorem size33 : (Tryz.prog.info? 33).map (·.size) = some 1 := by kernel_rfl
theorem zero33 : (Tryz.prog.info? 33).bind (·.zero) = Option.some (Go.Value.slice Option.none 0 0) := by kernel_rfl
theorem bytes33 : (Tryz.prog.info? 33).map (·.bytes) = some 24 := by kernel_rfl
theorem agg37 : aggB Tryz.prog 37 = some false := agg_of Tryz.underlying37 rfl
theorem size37 : (Tryz.prog.info? 37).map (·.size) = some 1 := by kernel_rfl
theorem zero37 : (Tryz.prog.info? 37).bind (·.zero) = Option.some (Go.Value.int Go.IntKind.i64 0) := by kernel_rfl
theorem bytes37 : (Tryz.prog.info? 37).map (·.bytes) = some 8 := by kernel_rfl
theorem agg73 : aggB Tryz.prog 73 = some false := agg_of Tryz.underlying73 rfl
theorem size73 : (Tryz.prog.info? 73).map (·.size) = some 1 := by kernel_rfl
theorem zero73 : (Tryz.prog.info? 73).bind (·.zero) = Option.some (Go.Value.slice Option.none 0 0) := by kernel_rfl
theorem bytes73 : (Tryz.prog.info? 73).map (·.bytes) = some 24 := by kernel_rfl
theorem agg77 : aggB Tryz.prog 77 = some false := agg_of Tryz.underlying77 rfl
theorem size77 : (Tryz.prog.info? 77).map (·.size) = some 1 := by kernel_rfl
theorem zero77 : (Tryz.prog.info? 77).bind (·.zero) = Option.some (Go.Value.int Go.IntKind.u64 0) := by kernel_rfl
theorem bytes77 : (Tryz.prog.info? 77).map (·.bytes) = some 8 := by kernel_rfl
theorem agg79 : aggB Tryz.prog 79 = some true := agg_of Tryz.underlying79 rfl
theorem size79 : (Tryz.prog.info? 79).map (·.size) = some 3 := by kernel_rfl
theorem zero79 : (Tryz.prog.info? 79).bind (·.zero) = Option.some (Go.Value.agg #[Go.Value.slice Option.none 0 0, Go.Value.int Go.IntKind.i64 0, Go.Value.int Go.IntKind.u64 0]) := by kernel_rfl
theorem bytes79 : (Tryz.prog.info? 79).map (·.bytes) = some 40 := by kernel_rfl
theorem agg83 : aggB Tryz.prog 83 = some true := agg_of Tryz.underlying83 rfl
theorem size83 : (Tryz.prog.info? 83).map (·.size) = some 4 := by kernel_rfl
theorem zero83 : (Tryz.prog.info? 83).bind (·.zero) = Option.some (Go.Value.agg #[Go.Value.slice Option.none 0 0, Go.Value.slice Option.none 0 0, Go.Value.int Go.IntKind.i64 0, Go.Value.slice Option.none 0 0]) := by kernel_rfl
theorem bytes83 : (Tryz.prog.info? 83).map (·.bytes) = some 80 := by kernel_rfl
theorem agg95 : aggB Tryz.prog 95 = some false := agg_of Tryz.underlying95 rfl
theorem size95 : (Tryz.prog.info? 95).map (·.size) = some 1 := by kernel_rfl
theorem zero95 : (Tryz.prog.info? 95).bind (·.zero) = Option.some (Go.Value.int Go.IntKind.u8 0) := by kernel_rfl
theorem bytes95 : (Tryz.prog.info? 95).map (·.bytes) = some 1 := by kernel_rfl
theorem agg99 : aggB Tryz.prog 99 = some true := agg_of Tryz.underlying99 rfl
theorem size99 : (Tryz.prog.info? 99).map (·.size) = some 3 := by kernel_rfl
theorem zero99 : (Tryz.prog.info? 99).bind (·.zero) = Option.some (Go.Value.agg #[Go.Value.int Go.IntKind.i64 0, Go.Value.int Go.IntKind.i64 0, Go.Value.int Go.IntKind.i64 0]) := by kernel_rfl
theorem bytes99 : (Tryz.prog.info? 99).map (·.bytes) = some 24 := by kernel_rfl
theorem agg101 : aggB Tryz.prog 101 = some true := agg_of Tryz.underlying101 rfl
theorem size101 : (Tryz.prog.info? 101).map (·.size) = some 7 := by kernel_rfl
theorem zero101 : (Tryz.prog.info? 101).bind (·.zero) = Option.some (Go.Value.agg #[Go.Value.int Go.IntKind.u8 0, Go.Value.int Go.IntKind.i64 0, Go.Value.int Go.IntKind.i64 0, Go.Value.int Go.IntKind.i64 0, Go.Value.int Go.IntKind.i64 0, Go.Value.int Go.IntKind.i64 0, Go.Value.bool Bool.false]) := by kernel_rfl
theorem bytes101 : (Tryz.prog.info? 101).map (·.bytes) = some 56 := by kernel_rfl
theorem agg110 : aggB Tryz.prog 110 = some false := agg_of Tryz.underlying110 rfl
theorem size110 : (Tryz.prog.info? 110).map (·.size) = some 1 := by kernel_rfl
theorem zero110 : (Tryz.prog.info? 110).bind (·.zero) = Option.some Go.Value.nilFunc := by kernel_rfl
theorem bytes110 : (Tryz.prog.info? 110).map (·.bytes) = some 8 := by kernel_rfl
theorem agg112 : aggB Tryz.prog 112 = some true := agg_of Tryz.underlying112 rfl
theorem size112 : (Tryz.prog.info? 112).map (·.size) = some 9 := by kernel_rfl
theorem zero112 : (Tryz.prog.info? 112).bind (·.zero) = Option.some (Go.Value.agg #[Go.Value.nilFunc, Go.Value.int Go.IntKind.u8 0, Go.Value.int Go.IntKind.i64 0, Go.Value.int Go.IntKind.i64 0, Go.Value.int Go.IntKind.i64 0, Go.Value.int Go.IntKind.i64 0, Go.Value.int Go.IntKind.i64 0, Go.Value.bool Bool.false, Go.Value.bool Bool.false]) := by kernel_rfl
theorem bytes112 : (Tryz.prog.info? 112).map (·.bytes) = some 72 := by kernel_rfl
theorem agg114 : aggB Tryz.prog 114 = some false := agg_of Tryz.underlying114 rfl
theorem size114 : (Tryz.prog.info? 114).map (·.size) = some 1 := by kernel_rfl
theorem zero114 : (Tryz.prog.info? 114).bind (·.zero) = Option.some Go.Value.nilFunc := by kernel_rfl
theorem bytes114 : (Tryz.prog.info? 114).map (·.bytes) = some 8 := by kernel_rfl
theorem agg117 : aggB Tryz.prog 117 = some false := agg_of Tryz.underlying117 rfl
theorem size117 : (Tryz.prog.info? 117).map (·.size) = some 1 := by kernel_rfl
theorem zero117 : (Tryz.prog.info? 117).bind (·.zero) = Option.some Go.Value.nilFunc := by kernel_rfl
theorem bytes117 : (Tryz.prog.info? 117).map (·.bytes) = some 8 := by kernel_rfl
theorem agg119 : aggB Tryz.prog 119 = some true := agg_of Tryz.underlying119 rfl
theorem size119 : (Tryz.prog.info? 119).map (·.size) = some 3 := by kernel_rfl
theorem zero119 : (Tryz.prog.info? 119).bind (·.zero) = Option.some (Go.Value.agg #[Go.Value.nilFunc, Go.Value.int Go.IntKind.u8 0, Go.Value.bool Bool.false]) := by kernel_rfl
theorem bytes119 : (Tryz.prog.info? 119).map (·.bytes) = some 16 := by kernel_rfl
theorem agg120 : aggB Tryz.prog 120 = some false := agg_of Tryz.underlying120 rfl
theorem size120 : (Tryz.prog.info? 120).map (·.size) = some 1 := by kernel_rfl
theorem zero120 : (Tryz.prog.info? 120).bind (·.zero) = Option.some (Go.Value.slice Option.none 0 0) := by kernel_rfl
theorem bytes120 : (Tryz.prog.info? 120).map (·.bytes) = some 24 := by kernel_rfl
theorem agg126 : aggB Tryz.prog 126 = some true := agg_of Tryz.underlying126 rfl
theorem size126 : (Tryz.prog.info? 126).map (·.size) = some 10 := by kernel_rfl
theorem zero126 : (Tryz.prog.info? 126).bind (·.zero) = Option.some (Go.Value.agg #[Go.Value.int Go.IntKind.i64 0, Go.Value.int Go.IntKind.i64 0, Go.Value.int Go.IntKind.i64 0, Go.Value.int Go.IntKind.i64 0, Go.Value.int Go.IntKind.i64 0, Go.Value.int Go.IntKind.i64 0, Go.Value.int Go.IntKind.i64 0, Go.Value.int Go.IntKind.i64 0, Go.Value.int Go.IntKind.i64 0, Go.Value.int Go.IntKind.i64 0]) := by kernel_rfl
theorem bytes126 : (Tryz.prog.info? 126).map (·.bytes) = some 80 := by kernel_rfl
theorem agg131 : aggB Tryz.prog 131 = some false := agg_of Tryz.underlying131 rfl
theorem size131 : (Tryz.prog.info? 131).map (·.size) = some 1 := by kernel_rfl
theorem zero131 : (Tryz.prog.info? 131).bind (·.zero) = Option.some (Go.Value.map Option.none) := by kernel_rfl
theorem bytes131 : (Tryz.prog.info? 131).map (·.bytes) = some 8 := by kernel_rfl
theorem agg133 : aggB Tryz.prog 133 = some false := agg_of Tryz.underlying133 rfl
theorem size133 : (Tryz.prog.info? 133).map (·.size) = some 1 := by kernel_rfl
theorem zero133 : (Tryz.prog.info? 133).bind (·.zero) = Option.some (Go.Value.int Go.IntKind.u64 0) := by kernel_rfl
theorem bytes133 : (Tryz.prog.info? 133).map (·.bytes) = some 8 := by kernel_rfl
theorem agg134 : aggB Tryz.prog 134 = some true := agg_of Tryz.underlying134 rfl
theorem size134 : (Tryz.prog.info? 134).map (·.size) = some 2 := by kernel_rfl
theorem zero134 : (Tryz.prog.info? 134).bind (·.zero) = Option.some (Go.Value.agg #[Go.Value.int Go.IntKind.i64 0, Go.Value.int Go.IntKind.i64 0]) := by kernel_rfl
theorem bytes134 : (Tryz.prog.info? 134).map (·.bytes) = some 16 := by kernel_rfl
theorem agg137 : aggB Tryz.prog 137 = some false := agg_of Tryz.underlying137 rfl
theorem size137 : (Tryz.prog.info? 137).map (·.size) = some 1 := by kernel_rfl
theorem zero137 : (Tryz.prog.info? 137).bind (·.zero) = Option.some Go.Value.nilFunc := by kernel_rfl
theorem bytes137 : (Tryz.prog.info? 137).map (·.bytes) = some 8 := by kernel_rfl
theorem agg144 : aggB Tryz.prog 144 = some false := agg_of Tryz.underlying144 rfl
theorem size144 : (Tryz.prog.info? 144).map (·.size) = some 1 := by kernel_rfl
theorem zero144 : (Tryz.prog.info? 144).bind (·.zero) = Option.some (Go.Value.chan Option.none) := by kernel_rfl
theorem bytes144 : (Tryz.prog.info? 144).map (·.bytes) = some 8 := by kernel_rfl
theorem agg146 : aggB Tryz.prog 146 = some true := agg_of Tryz.underlying146 rfl
theorem size146 : (Tryz.prog.info? 146).map (·.size) = some 0 := by kernel_rfl
theorem zero146 : (Tryz.prog.info? 146).bind (·.zero) = Option.some (Go.Value.agg #[]) := by kernel_rfl
theorem bytes146 : (Tryz.prog.info? 146).map (·.bytes) = some 0 := by kernel_rfl
theorem agg147 : aggB Tryz.prog 147 = some true := agg_of Tryz.underlying147 rfl
theorem size147 : (Tryz.prog.info? 147).map (·.size) = some 0 := by kernel_rfl
theorem zero147 : (Tryz.prog.info? 147).bind (·.zero) = Option.some (Go.Value.agg #[]) := by kernel_rfl
theorem bytes147 : (Tryz.prog.info? 147).map (·.bytes) = some 0 := by kernel_rfl
theorem agg148 : aggB Tryz.prog 148 = some true := agg_of Tryz.underlying148 rfl
theorem size148 : (Tryz.prog.info? 148).map (·.size) = some 0 := by kernel_rfl
theorem zero148 : (Tryz.prog.info? 148).bind (·.zero) = Option.some (Go.Value.agg #[]) := by kernel_rfl
theorem bytes148 : (Tryz.prog.info? 148).map (·.bytes) = some 0 := by kernel_rfl
theorem agg150 : aggB Tryz.prog 150 = some true := agg_of Tryz.underlying150 rfl
theorem size150 : (Tryz.prog.info? 150).map (·.size) = some 1 := by kernel_rfl
theorem zero150 : (Tryz.prog.info? 150).bind (·.zero) = Option.some (Go.Value.agg #[Go.Value.int Go.IntKind.u64 0]) := by kernel_rfl
theorem bytes150 : (Tryz.prog.info? 150).map (·.bytes) = some 8 := by kernel_rfl
theorem agg151 : aggB Tryz.prog 151 = some false := agg_of Tryz.underlying151 rfl
theorem size151 : (Tryz.prog.info? 151).map (·.size) = some 1 := by kernel_rfl
theorem zero151 : (Tryz.prog.info? 151).bind (·.zero) = Option.some (Go.Value.int Go.IntKind.u32 0) := by kernel_rfl
theorem bytes151 : (Tryz.prog.info? 151).map (·.bytes) = some 4 := by kernel_rfl
theorem agg153 : aggB Tryz.prog 153 = some true := agg_of Tryz.underlying153 rfl
theorem size153 : (Tryz.prog.info? 153).map (·.size) = some 2 := by kernel_rfl
theorem zero153 : (Tryz.prog.info? 153).bind (·.zero) = Option.some (Go.Value.agg #[Go.Value.int Go.IntKind.u64 0, Go.Value.int Go.IntKind.u32 0]) := by kernel_rfl
theorem bytes153 : (Tryz.prog.info? 153).map (·.bytes) = some 16 := by kernel_rfl
theorem agg156 : aggB Tryz.prog 156 = some false := agg_of Tryz.underlying156 rfl
theorem size156 : (Tryz.prog.info? 156).map (·.size) = some 1 := by kernel_rfl
theorem zero156 : (Tryz.prog.info? 156).bind (·.zero) = Option.some (Go.Value.pointer Option.none) := by kernel_rfl
theorem bytes156 : (Tryz.prog.info? 156).map (·.bytes) = some 8 := by kernel_rfl
theorem agg159 : aggB Tryz.prog 159 = some false := agg_of Tryz.underlying159 rfl
theorem size159 : (Tryz.prog.info? 159).map (·.size) = some 1 := by kernel_rfl
theorem zero159 : (Tryz.prog.info? 159).bind (·.zero) = Option.some Go.Value.nilIface := by kernel_rfl
theorem bytes159 : (Tryz.prog.info? 159).map (·.bytes) = some 16 := by kernel_rfl
theorem agg163 : aggB Tryz.prog 163 = some false := agg_of Tryz.underlying163 rfl
theorem size163 : (Tryz.prog.info? 163).map (·.size) = some 1 := by kernel_rfl
theorem zero163 : (Tryz.prog.info? 163).bind (·.zero) = Option.some Go.Value.nilFunc := by kernel_rfl
theorem bytes163 : (Tryz.prog.info? 163).map (·.bytes) = some 8 := by kernel_rfl
theorem agg164 : aggB Tryz.prog 164 = some false := agg_of Tryz.underlying164 rfl
theorem size164 : (Tryz.prog.info? 164).map (·.size) = some 1 := by kernel_rfl
theorem zero164 : (Tryz.prog.info? 164).bind (·.zero) = Option.some Go.Value.nilFunc := by kernel_rfl
theorem bytes164 : (Tryz.prog.info? 164).map (·.bytes) = some 8 := by kernel_rfl
theorem agg166 : aggB Tryz.prog 166 = some false := agg_of Tryz.underlying166 rfl
theorem size166 : (Tryz.prog.info? 166).map (·.size) = some 1 := by kernel_rfl
theorem zero166 : (Tryz.prog.info? 166).bind (·.zero) = Option.some Go.Value.nilIface := by kernel_rfl
theorem bytes166 : (Tryz.prog.info? 166).map (·.bytes) = some 16 := by kernel_rfl
theorem agg169 : aggB Tryz.prog 169 = some false := agg_of Tryz.underlying169 rfl
theorem size169 : (Tryz.prog.info? 169).map (·.size) = some 1 := by kernel_rfl
theorem zero169 : (Tryz.prog.info? 169).bind (·.zero) = Option.some (Go.Value.pointer Option.none) := by kernel_rfl
theorem bytes169 : (Tryz.prog.info? 169).map (·.bytes) = some 8 := by kernel_rfl
theorem agg170 : aggB Tryz.prog 170 = some false := agg_of Tryz.underlying170 rfl
theorem size170 : (Tryz.prog.info? 170).map (·.size) = some 1 := by kernel_rfl
theorem zero170 : (Tryz.prog.info? 170).bind (·.zero) = Option.some (Go.Value.pointer Option.none) := by kernel_rfl
theorem bytes170 : (Tryz.prog.info? 170).map (·.bytes) = some 8 := by kernel_rfl
theorem agg171 : aggB Tryz.prog 171 = some false := agg_of Tryz.underlying171 rfl
theorem size171 : (Tryz.prog.info? 171).map (·.size) = some 1 := by kernel_rfl
theorem zero171 : (Tryz.prog.info? 171).bind (·.zero) = Option.some (Go.Value.pointer Option.none) := by kernel_rfl
theorem bytes171 : (Tryz.prog.info? 171).map (·.bytes) = some 8 := by kernel_rfl
theorem agg173 : aggB Tryz.prog 173 = some false := agg_of Tryz.underlying173 rfl
theorem size173 : (Tryz.prog.info? 173).map (·.size) = some 1 := by kernel_rfl
theorem zero173 : (Tryz.prog.info? 173).bind (·.zero) = Option.some (Go.Value.pointer Option.none) := by kernel_rfl
theorem bytes173 : (Tryz.prog.info? 173).map (·.bytes) = some 8 := by kernel_rfl
theorem agg174 : aggB Tryz.prog 174 = some false := agg_of Tryz.underlying174 rfl
theorem size174 : (Tryz.prog.info? 174).map (·.size) = some 1 := by kernel_rfl
theorem zero174 : (Tryz.prog.info? 174).bind (·.zero) = Option.some (Go.Value.int Go.IntKind.i64 0) := by kernel_rfl
theorem bytes174 : (Tryz.prog.info? 174).map (·.bytes) = some 8 := by kernel_rfl
theorem agg178 : aggB Tryz.prog 178 = some false := agg_of Tryz.underlying178 rfl
theorem size178 : (Tryz.prog.info? 178).map (·.size) = some 1 := by kernel_rfl
theorem zero178 : (Tryz.prog.info? 178).bind (·.zero) = Option.some (Go.Value.pointer Option.none) := by kernel_rfl
theorem bytes178 : (Tryz.prog.info? 178).map (·.bytes) = some 8 := by kernel_rfl
theorem agg186 : aggB Tryz.prog 186 = some true := agg_of Tryz.underlying186 rfl
theorem size186 : (Tryz.prog.info? 186).map (·.size) = some 1 := by kernel_rfl
theorem zero186 : (Tryz.prog.info? 186).bind (·.zero) = Option.some (Go.Value.agg #[Go.Value.int Go.IntKind.i64 0]) := by kernel_rfl
theorem bytes186 : (Tryz.prog.info? 186).map (·.bytes) = some 8 := by kernel_rfl
theorem agg188 : aggB Tryz.prog 188 = some false := agg_of Tryz.underlying188 rfl
theorem size188 : (Tryz.prog.info? 188).map (·.size) = some 1 := by kernel_rfl
theorem zero188 : (Tryz.prog.info? 188).bind (·.zero) = Option.some (Go.Value.pointer Option.none) := by kernel_rfl
theorem bytes188 : (Tryz.prog.info? 188).map (·.bytes) = some 8 := by kernel_rfl
theorem agg191 : aggB Tryz.prog 191 = some true := agg_of Tryz.underlying191 rfl
theorem size191 : (Tryz.prog.info? 191).map (·.size) = some 2 := by kernel_rfl
theorem zero191 : (Tryz.prog.info? 191).bind (·.zero) = Option.some (Go.Value.agg #[Go.Value.int Go.IntKind.i64 0, Go.Value.int Go.IntKind.i64 0]) := by kernel_rfl
theorem bytes191 : (Tryz.prog.info? 191).map (·.bytes) = some 16 := by kernel_rfl
theorem agg193 : aggB Tryz.prog 193 = some true := agg_of Tryz.underlying193 rfl
theorem size193 : (Tryz.prog.info? 193).map (·.size) = some 1 := by kernel_rfl
theorem zero193 : (Tryz.prog.info? 193).bind (·.zero) = Option.some (Go.Value.agg #[Go.Value.int Go.IntKind.i64 0]) := by kernel_rfl
theorem bytes193 : (Tryz.prog.info? 193).map (·.bytes) = some 8 := by kernel_rfl
theorem agg195 : aggB Tryz.prog 195 = some true := agg_of Tryz.underlying195 rfl
theorem size195 : (Tryz.prog.info? 195).map (·.size) = some 2 := by kernel_rfl
theorem zero195 : (Tryz.prog.info? 195).bind (·.zero) = Option.some (Go.Value.agg #[Go.Value.int Go.IntKind.i64 0, Go.Value.int Go.IntKind.i64 0]) := by kernel_rfl
theorem bytes195 : (Tryz.prog.info? 195).map (·.bytes) = some 16 := by kernel_rfl
theorem agg196 : aggB Tryz.prog 196 = some false := agg_of Tryz.underlying196 rfl
theorem size196 : (Tryz.prog.info? 196).map (·.size) = some 1 := by kernel_rfl
theorem zero196 : (Tryz.prog.info? 196).bind (·.zero) = Option.some (Go.Value.pointer Option.none) := by kernel_rfl
theorem bytes196 : (Tryz.prog.info? 196).map (·.bytes) = some 8 := by kernel_rfl
theorem agg198 : aggB Tryz.prog 198 = some false := agg_of Tryz.underlying198 rfl
theorem size198 : (Tryz.prog.info? 198).map (·.size) = some 1 := by kernel_rfl
theorem zero198 : (Tryz.prog.info? 198).bind (·.zero) = Option.some (Go.Value.pointer Option.none) := by kernel_rfl
theorem bytes198 : (Tryz.prog.info? 198).map (·.bytes) = some 8 := by kernel_rfl
theorem agg202 : aggB Tryz.prog 202 = some false := agg_of Tryz.underlying202 rfl
theorem size202 : (Tryz.prog.info? 202).map (·.size) = some 1 := by kernel_rfl
theorem zero202 : (Tryz.prog.info? 202).bind (·.zero) = Option.some (Go.Value.int Go.IntKind.u64 0) := by kernel_rfl
theorem bytes202 : (Tryz.prog.info? 202).map (·.bytes) = some 8 := by kernel_rfl
theorem agg204 : aggB Tryz.prog 204 = some true := agg_of Tryz.underlying204 rfl
theorem size204 : (Tryz.prog.info? 204).map (·.size) = some 3 := by kernel_rfl
theorem zero204 : (Tryz.prog.info? 204).bind (·.zero) = Option.some (Go.Value.agg #[Go.Value.pointer Option.none, Go.Value.pointer Option.none, Go.Value.int Go.IntKind.u64 0]) := by kernel_rfl
theorem bytes204 : (Tryz.prog.info? 204).map (·.bytes) = some 24 := by kernel_rfl
theorem agg207 : aggB Tryz.prog 207 = some false := agg_of Tryz.underlying207 rfl
theorem size207 : (Tryz.prog.info? 207).map (·.size) = some 1 := by kernel_rfl
theorem zero207 : (Tryz.prog.info? 207).bind (·.zero) = Option.some Go.Value.nilIface := by kernel_rfl
theorem bytes207 : (Tryz.prog.info? 207).map (·.bytes) = some 16 := by kernel_rfl
theorem agg209 : aggB Tryz.prog 209 = some false := agg_of Tryz.underlying209 rfl
theorem size209 : (Tryz.prog.info? 209).map (·.size) = some 1 := by kernel_rfl
theorem zero209 : (Tryz.prog.info? 209).bind (·.zero) = Option.some (Go.Value.int Go.IntKind.u8 0) := by kernel_rfl
theorem bytes209 : (Tryz.prog.info? 209).map (·.bytes) = some 1 := by kernel_rfl
theorem agg214 : aggB Tryz.prog 214 = some true := agg_of Tryz.underlying214 rfl
theorem size214 : (Tryz.prog.info? 214).map (·.size) = some 1 := by kernel_rfl
theorem zero214 : (Tryz.prog.info? 214).bind (·.zero) = Option.some (Go.Value.agg #[Go.Value.pointer Option.none]) := by kernel_rfl
theorem bytes214 : (Tryz.prog.info? 214).map (·.bytes) = some 8 := by kernel_rfl
theorem agg215 : aggB Tryz.prog 215 = some false := agg_of Tryz.underlying215 rfl
theorem size215 : (Tryz.prog.info? 215).map (·.size) = some 1 := by kernel_rfl
theorem zero215 : (Tryz.prog.info? 215).bind (·.zero) = Option.some (Go.Value.pointer Option.none) := by kernel_rfl
theorem bytes215 : (Tryz.prog.info? 215).map (·.bytes) = some 8 := by kernel_rfl
theorem agg219 : aggB Tryz.prog 219 = some false := agg_of Tryz.underlying219 rfl
theorem size219 : (Tryz.prog.info? 219).map (·.size) = some 1 := by kernel_rfl
theorem zero219 : (Tryz.prog.info? 219).bind (·.zero) = Option.some Go.Value.nilIface := by kernel_rfl
theorem bytes219 : (Tryz.prog.info? 219).map (·.bytes) = some 16 := by kernel_rfl
theorem agg222 : aggB Tryz.prog 222 = some false := agg_of Tryz.underlying222 rfl
theorem size222 : (Tryz.prog.info? 222).map (·.size) = some 1 := by kernel_rfl
theorem zero222 : (Tryz.prog.info? 222).bind (·.zero) = Option.some Go.Value.nilIface := by kernel_rfl
theorem bytes222 : (Tryz.prog.info? 222).map (·.bytes) = some 16 := by kernel_rfl
theorem agg224 : aggB Tryz.prog 224 = some false := agg_of Tryz.underlying224 rfl
theorem size224 : (Tryz.prog.info? 224).map (·.size) = some 1 := by kernel_rfl
theorem zero224 : (Tryz.prog.info? 224).bind (·.zero) = Option.some Go.Value.nilIface := by kernel_rfl
theorem bytes224 : (Tryz.prog.info? 224).map (·.bytes) = some 16 := by kernel_rfl
theorem agg225 : aggB Tryz.prog 225 = some false := agg_of Tryz.underlying225 rfl
theorem size225 : (Tryz.prog.info? 225).map (·.size) = some 1 := by kernel_rfl
theorem zero225 : (Tryz.prog.info? 225).bind (·.zero) = Option.some (Go.Value.slice Option.none 0 0) := by kernel_rfl
theorem bytes225 : (Tryz.prog.info? 225).map (·.bytes) = some 24 := by kernel_rfl
theorem agg229 : aggB Tryz.prog 229 = some true := agg_of Tryz.underlying229 rfl
theorem size229 : (Tryz.prog.info? 229).map (·.size) = some 4 := by kernel_rfl
theorem zero229 : (Tryz.prog.info? 229).bind (·.zero) = Option.some (Go.Value.agg #[Go.Value.pointer Option.none, Go.Value.pointer Option.none, Go.Value.pointer Option.none, Go.Value.string { data := #[] }]) := by kernel_rfl
theorem bytes229 : (Tryz.prog.info? 229).map (·.bytes) = some 40 := by kernel_rfl
theorem agg230 : aggB Tryz.prog 230 = some true := agg_of Tryz.underlying230 rfl
theorem size230 : (Tryz.prog.info? 230).map (·.size) = some 0 := by kernel_rfl
theorem zero230 : (Tryz.prog.info? 230).bind (·.zero) = Option.some (Go.Value.agg #[]) := by kernel_rfl
theorem bytes230 : (Tryz.prog.info? 230).map (·.bytes) = some 0 := by kernel_rfl
theorem agg232 : aggB Tryz.prog 232 = some true := agg_of Tryz.underlying232 rfl
theorem size232 : (Tryz.prog.info? 232).map (·.size) = some 0 := by kernel_rfl
theorem zero232 : (Tryz.prog.info? 232).bind (·.zero) = Option.some (Go.Value.agg #[]) := by kernel_rfl
theorem bytes232 : (Tryz.prog.info? 232).map (·.bytes) = some 0 := by kernel_rfl
theorem agg234 : aggB Tryz.prog 234 = some false := agg_of Tryz.underlying234 rfl
theorem size234 : (Tryz.prog.info? 234).map (·.size) = some 1 := by kernel_rfl
theorem zero234 : (Tryz.prog.info? 234).bind (·.zero) = Option.some (Go.Value.int Go.IntKind.u8 0) := by kernel_rfl
theorem bytes234 : (Tryz.prog.info? 234).map (·.bytes) = some 1 := by kernel_rfl
theorem agg235 : aggB Tryz.prog 235 = some false := agg_of Tryz.underlying235 rfl
theorem size235 : (Tryz.prog.info? 235).map (·.size) = some 1 := by kernel_rfl
theorem zero235 : (Tryz.prog.info? 235).bind (·.zero) = Option.some Go.Value.nilFunc := by kernel_rfl
theorem bytes235 : (Tryz.prog.info? 235).map (·.bytes) = some 8 := by kernel_rfl
theorem agg236 : aggB Tryz.prog 236 = some false := agg_of Tryz.underlying236 rfl
theorem size236 : (Tryz.prog.info? 236).map (·.size) = some 1 := by kernel_rfl
theorem zero236 : (Tryz.prog.info? 236).bind (·.zero) = Option.some (Go.Value.pointer Option.none) := by kernel_rfl
theorem bytes236 : (Tryz.prog.info? 236).map (·.bytes) = some 8 := by kernel_rfl
theorem agg237 : aggB Tryz.prog 237 = some false := agg_of Tryz.underlying237 rfl
theorem size237 : (Tryz.prog.info? 237).map (·.size) = some 1 := by kernel_rfl
theorem zero237 : (Tryz.prog.info? 237).bind (·.zero) = Option.some (Go.Value.int Go.IntKind.i32 0) := by kernel_rfl
theorem bytes237 : (Tryz.prog.info? 237).map (·.bytes) = some 4 := by kernel_rfl
theorem agg238 : aggB Tryz.prog 238 = some false := agg_of Tryz.underlying238 rfl
theorem size238 : (Tryz.prog.info? 238).map (·.size) = some 1 := by kernel_rfl
theorem zero238 : (Tryz.prog.info? 238).bind (·.zero) = Option.some (Go.Value.int Go.IntKind.i32 0) := by kernel_rfl
theorem bytes238 : (Tryz.prog.info? 238).map (·.bytes) = some 4 := by kernel_rfl
theorem agg240 : aggB Tryz.prog 240 = some true := agg_of Tryz.underlying240 rfl
theorem size240 : (Tryz.prog.info? 240).map (·.size) = some 11 := by kernel_rfl
theorem zero240 : (Tryz.prog.info? 240).bind (·.zero) = Option.some (Go.Value.agg #[Go.Value.int Go.IntKind.u64 0, Go.Value.int Go.IntKind.u64 0, Go.Value.int Go.IntKind.u32 0, Go.Value.int Go.IntKind.u8 0, Go.Value.int Go.IntKind.u8 0, Go.Value.int Go.IntKind.u8 0, Go.Value.int Go.IntKind.u8 0, Go.Value.nilFunc, Go.Value.pointer Option.none, Go.Value.int Go.IntKind.i32 0, Go.Value.int Go.IntKind.i32 0]) := by kernel_rfl
theorem bytes240 : (Tryz.prog.info? 240).map (·.bytes) = some 48 := by kernel_rfl
theorem agg244 : aggB Tryz.prog 244 = some true := agg_of Tryz.underlying244 rfl
theorem size244 : (Tryz.prog.info? 244).map (·.size) = some 2 := by kernel_rfl
theorem zero244 : (Tryz.prog.info? 244).bind (·.zero) = Option.some (Go.Value.agg #[Go.Value.string { data := #[] }, Go.Value.int Go.IntKind.u8 0]) := by kernel_rfl
theorem bytes244 : (Tryz.prog.info? 244).map (·.bytes) = some 24 := by kernel_rfl
theorem agg245 : aggB Tryz.prog 245 = some false := agg_of Tryz.underlying245 rfl
theorem size245 : (Tryz.prog.info? 245).map (·.size) = some 1 := by kernel_rfl
theorem zero245 : (Tryz.prog.info? 245).bind (·.zero) = Option.some (Go.Value.pointer Option.none) := by kernel_rfl
theorem bytes245 : (Tryz.prog.info? 245).map (·.bytes) = some 8 := by kernel_rfl
theorem agg247 : aggB Tryz.prog 247 = some false := agg_of Tryz.underlying247 rfl
theorem size247 : (Tryz.prog.info? 247).map (·.size) = some 1 := by kernel_rfl
theorem zero247 : (Tryz.prog.info? 247).bind (·.zero) = Option.some (Go.Value.int Go.IntKind.u16 0) := by kernel_rfl
theorem bytes247 : (Tryz.prog.info? 247).map (·.bytes) = some 2 := by kernel_rfl
theorem agg249 : aggB Tryz.prog 249 = some true := agg_of Tryz.underlying249 rfl
theorem size249 : (Tryz.prog.info? 249).map (·.size) = some 5 := by kernel_rfl
theorem zero249 : (Tryz.prog.info? 249).bind (·.zero) = Option.some (Go.Value.agg #[Go.Value.int Go.IntKind.i32 0, Go.Value.int Go.IntKind.u16 0, Go.Value.int Go.IntKind.u16 0, Go.Value.int Go.IntKind.u32 0, Go.Value.int Go.IntKind.u32 0]) := by kernel_rfl
theorem bytes249 : (Tryz.prog.info? 249).map (·.bytes) = some 16 := by kernel_rfl
theorem agg250 : aggB Tryz.prog 250 = some false := agg_of Tryz.underlying250 rfl
theorem size250 : (Tryz.prog.info? 250).map (·.size) = some 1 := by kernel_rfl
theorem zero250 : (Tryz.prog.info? 250).bind (·.zero) = Option.some (Go.Value.slice Option.none 0 0) := by kernel_rfl
theorem bytes250 : (Tryz.prog.info? 250).map (·.bytes) = some 24 := by kernel_rfl
theorem agg251 : aggB Tryz.prog 251 = some false := agg_of Tryz.underlying251 rfl
theorem size251 : (Tryz.prog.info? 251).map (·.size) = some 1 := by kernel_rfl
theorem zero251 : (Tryz.prog.info? 251).bind (·.zero) = Option.some (Go.Value.int Go.IntKind.i32 0) := by kernel_rfl
theorem bytes251 : (Tryz.prog.info? 251).map (·.bytes) = some 4 := by kernel_rfl
theorem agg253 : aggB Tryz.prog 253 = some true := agg_of Tryz.underlying253 rfl
theorem size253 : (Tryz.prog.info? 253).map (·.size) = some 4 := by kernel_rfl
theorem zero253 : (Tryz.prog.info? 253).bind (·.zero) = Option.some (Go.Value.agg #[Go.Value.int Go.IntKind.i32 0, Go.Value.int Go.IntKind.i32 0, Go.Value.int Go.IntKind.i32 0, Go.Value.int Go.IntKind.i32 0]) := by kernel_rfl
theorem bytes253 : (Tryz.prog.info? 253).map (·.bytes) = some 16 := by kernel_rfl
theorem agg254 : aggB Tryz.prog 254 = some false := agg_of Tryz.underlying254 rfl
theorem size254 : (Tryz.prog.info? 254).map (·.size) = some 1 := by kernel_rfl
theorem zero254 : (Tryz.prog.info? 254).bind (·.zero) = Option.some (Go.Value.pointer Option.none) := by kernel_rfl
theorem bytes254 : (Tryz.prog.info? 254).map (·.bytes) = some 8 := by kernel_rfl
end Go.Mz


namespace Go.Mz
open Go.Conc Go.Proofs
def ti0 : TI := ⟨false, 1, 0, Value.tuple #[], .other⟩
theorem ti0_ok : TIOk Tryz.prog 0 ti0 := ⟨agg0, size0, bytes0, zero0, ⟨_, Tryz.underlying0, fun _ e => by cases e⟩⟩
def ti1 : TI := ⟨false, 1, 8, Value.nilFunc, .other⟩
theorem ti1_ok : TIOk Tryz.prog 1 ti1 := ⟨agg1, size1, bytes1, zero1, ⟨_, Tryz.underlying1, fun _ e => by cases e⟩⟩
def ti2 : TI := ⟨false, 1, 8, Value.int IntKind.i64 0, .int .i64⟩
theorem ti2_ok : TIOk Tryz.prog 2 ti2 := ⟨agg2, size2, bytes2, zero2, Tryz.underlying2⟩
def ti3 : TI := ⟨false, 1, 8, Value.int IntKind.i64 0, .int .i64⟩
theorem ti3_ok : TIOk Tryz.prog 3 ti3 := ⟨agg3, size3, bytes3, zero3, Tryz.underlying3⟩
def ti4 : TI := ⟨false, 1, 1, Value.bool Bool.false, .bool⟩
theorem ti4_ok : TIOk Tryz.prog 4 ti4 := ⟨agg4, size4, bytes4, zero4, Tryz.underlying4⟩
def ti5 : TI := ⟨false, 1, 1, Value.int IntKind.u8 0, .int .u8⟩
theorem ti5_ok : TIOk Tryz.prog 5 ti5 := ⟨agg5, size5, bytes5, zero5, Tryz.underlying5⟩
def ti6 : TI := ⟨false, 1, 1, Value.int IntKind.u8 0, .int .u8⟩
theorem ti6_ok : TIOk Tryz.prog 6 ti6 := ⟨agg6, size6, bytes6, zero6, Tryz.underlying6⟩
def ti8 : TI := ⟨true, 4, 24, Value.agg #[Value.int IntKind.i64 0, Value.int IntKind.i64 0, Value.bool Bool.false, Value.int IntKind.u8 0], .str [(0, 2), (1, 3), (2, 4), (3, 6)]⟩
theorem ti8_ok : TIOk Tryz.prog 8 ti8 := ⟨agg8, size8, bytes8, zero8, ⟨_, Tryz.underlying8, rfl⟩⟩
def ti9 : TI := ⟨false, 1, 16, Value.string { data := #[] }, .other⟩
theorem ti9_ok : TIOk Tryz.prog 9 ti9 := ⟨agg9, size9, bytes9, zero9, ⟨_, Tryz.underlying9, fun _ e => by cases e⟩⟩
def ti10 : TI := ⟨false, 1, 16, Value.string { data := #[] }, .other⟩
theorem ti10_ok : TIOk Tryz.prog 10 ti10 := ⟨agg10, size10, bytes10, zero10, ⟨_, Tryz.underlying10, fun _ e => by cases e⟩⟩
def ti11 : TI := ⟨false, 1, 16, Value.string { data := #[] }, .other⟩
theorem ti11_ok : TIOk Tryz.prog 11 ti11 := ⟨agg11, size11, bytes11, zero11, ⟨_, Tryz.underlying11, fun _ e => by cases e⟩⟩
def ti12 : TI := ⟨false, 1, 8, Value.int IntKind.u64 0, .int .u64⟩
theorem ti12_ok : TIOk Tryz.prog 12 ti12 := ⟨agg12, size12, bytes12, zero12, Tryz.underlying12⟩
def ti14 : TI := ⟨true, 2, 24, Value.agg #[Value.string { data := #[] }, Value.int IntKind.u64 0], .str [(0, 9), (1, 12)]⟩
theorem ti14_ok : TIOk Tryz.prog 14 ti14 := ⟨agg14, size14, bytes14, zero14, ⟨_, Tryz.underlying14, rfl⟩⟩
def ti15 : TI := ⟨false, 1, 8, Value.pointer Option.none, .ptr 229⟩
theorem ti15_ok : TIOk Tryz.prog 15 ti15 := ⟨agg15, size15, bytes15, zero15, Tryz.underlying15⟩
def ti16 : TI := ⟨false, 1, 8, Value.pointer Option.none, .ptr 232⟩
theorem ti16_ok : TIOk Tryz.prog 16 ti16 := ⟨agg16, size16, bytes16, zero16, Tryz.underlying16⟩
def ti17 : TI := ⟨false, 1, 8, Value.pointer Option.none, .ptr 240⟩
theorem ti17_ok : TIOk Tryz.prog 17 ti17 := ⟨agg17, size17, bytes17, zero17, Tryz.underlying17⟩
def ti19 : TI := ⟨true, 1, 8, Value.agg #[Value.pointer Option.none], .str [(0, 17)]⟩
theorem ti19_ok : TIOk Tryz.prog 19 ti19 := ⟨agg19, size19, bytes19, zero19, ⟨_, Tryz.underlying19, rfl⟩⟩
def ti20 : TI := ⟨false, 1, 16, Value.nilIface, .iface⟩
theorem ti20_ok : TIOk Tryz.prog 20 ti20 := ⟨agg20, size20, bytes20, zero20, ⟨_, Tryz.underlying20⟩⟩
def ti21 : TI := ⟨false, 1, 4, Value.int IntKind.i32 0, .int .i32⟩
theorem ti21_ok : TIOk Tryz.prog 21 ti21 := ⟨agg21, size21, bytes21, zero21, Tryz.underlying21⟩
def ti22 : TI := ⟨false, 1, 24, Value.slice Option.none 0 0, .slice 23⟩
theorem ti22_ok : TIOk Tryz.prog 22 ti22 := ⟨agg22, size22, bytes22, zero22, Tryz.underlying22⟩
def ti23 : TI := ⟨false, 1, 24, Value.slice Option.none 0 0, .slice 3⟩
theorem ti23_ok : TIOk Tryz.prog 23 ti23 := ⟨agg23, size23, bytes23, zero23, Tryz.underlying23⟩
def ti24 : TI := ⟨false, 1, 24, Value.slice Option.none 0 0, .slice 28⟩
theorem ti24_ok : TIOk Tryz.prog 24 ti24 := ⟨agg24, size24, bytes24, zero24, Tryz.underlying24⟩
def ti26 : TI := ⟨true, 4, 80, Value.agg #[Value.slice Option.none 0 0, Value.slice Option.none 0 0, Value.int IntKind.i64 0, Value.slice Option.none 0 0], .str [(0, 22), (1, 23), (2, 3), (3, 24)]⟩
theorem ti26_ok : TIOk Tryz.prog 26 ti26 := ⟨agg26, size26, bytes26, zero26, ⟨_, Tryz.underlying26, rfl⟩⟩
def ti28 : TI := ⟨true, 4, 32, Value.agg #[Value.int IntKind.i64 0, Value.int IntKind.i64 0, Value.int IntKind.i64 0, Value.int IntKind.i64 0], .str [(0, 3), (1, 3), (2, 3), (3, 3)]⟩
theorem ti28_ok : TIOk Tryz.prog 28 ti28 := ⟨agg28, size28, bytes28, zero28, ⟨_, Tryz.underlying28, rfl⟩⟩
def ti31 : TI := ⟨false, 1, 8, Value.pointer Option.none, .ptr 79⟩
theorem ti31_ok : TIOk Tryz.prog 31 ti31 := ⟨agg31, size31, bytes31, zero31, Tryz.underlying31⟩
def ti33 : TI := ⟨false, 1, 24, Value.slice Option.none 0 0, .slice 26⟩
theorem ti33_ok : TIOk Tryz.prog 33 ti33 := ⟨agg33, size33, bytes33, zero33, Tryz.underlying33⟩
def ti37 : TI := ⟨false, 1, 8, Value.int IntKind.i64 0, .int .i64⟩
theorem ti37_ok : TIOk Tryz.prog 37 ti37 := ⟨agg37, size37, bytes37, zero37, Tryz.underlying37⟩
def ti73 : TI := ⟨false, 1, 24, Value.slice Option.none 0 0, .slice 4⟩
theorem ti73_ok : TIOk Tryz.prog 73 ti73 := ⟨agg73, size73, bytes73, zero73, Tryz.underlying73⟩
def ti77 : TI := ⟨false, 1, 8, Value.int IntKind.u64 0, .int .u64⟩
theorem ti77_ok : TIOk Tryz.prog 77 ti77 := ⟨agg77, size77, bytes77, zero77, Tryz.underlying77⟩
def ti79 : TI := ⟨true, 3, 40, Value.agg #[Value.slice Option.none 0 0, Value.int IntKind.i64 0, Value.int IntKind.u64 0], .str [(0, 23), (1, 3), (2, 77)]⟩
theorem ti79_ok : TIOk Tryz.prog 79 ti79 := ⟨agg79, size79, bytes79, zero79, ⟨_, Tryz.underlying79, rfl⟩⟩
def ti83 : TI := ⟨true, 4, 80, Value.agg #[Value.slice Option.none 0 0, Value.slice Option.none 0 0, Value.int IntKind.i64 0, Value.slice Option.none 0 0], .str [(0, 26)]⟩
theorem ti83_ok : TIOk Tryz.prog 83 ti83 := ⟨agg83, size83, bytes83, zero83, ⟨_, Tryz.underlying83, rfl⟩⟩
def ti95 : TI := ⟨false, 1, 1, Value.int IntKind.u8 0, .int .u8⟩
theorem ti95_ok : TIOk Tryz.prog 95 ti95 := ⟨agg95, size95, bytes95, zero95, Tryz.underlying95⟩
def ti99 : TI := ⟨true, 3, 24, Value.agg #[Value.int IntKind.i64 0, Value.int IntKind.i64 0, Value.int IntKind.i64 0], .arr 3 3⟩
theorem ti99_ok : TIOk Tryz.prog 99 ti99 := ⟨agg99, size99, bytes99, zero99, Tryz.underlying99⟩
def ti101 : TI := ⟨true, 7, 56, Value.agg #[Value.int IntKind.u8 0, Value.int IntKind.i64 0, Value.int IntKind.i64 0, Value.int IntKind.i64 0, Value.int IntKind.i64 0, Value.int IntKind.i64 0, Value.bool Bool.false], .str [(0, 95), (1, 99), (4, 3), (5, 3), (6, 4)]⟩
theorem ti101_ok : TIOk Tryz.prog 101 ti101 := ⟨agg101, size101, bytes101, zero101, ⟨_, Tryz.underlying101, rfl⟩⟩
def ti110 : TI := ⟨false, 1, 8, Value.nilFunc, .other⟩
theorem ti110_ok : TIOk Tryz.prog 110 ti110 := ⟨agg110, size110, bytes110, zero110, ⟨_, Tryz.underlying110, fun _ e => by cases e⟩⟩
def ti112 : TI := ⟨true, 9, 72, Value.agg #[Value.nilFunc, Value.int IntKind.u8 0, Value.int IntKind.i64 0, Value.int IntKind.i64 0, Value.int IntKind.i64 0, Value.int IntKind.i64 0, Value.int IntKind.i64 0, Value.bool Bool.false, Value.bool Bool.false], .str [(0, 110), (1, 101), (8, 4)]⟩
theorem ti112_ok : TIOk Tryz.prog 112 ti112 := ⟨agg112, size112, bytes112, zero112, ⟨_, Tryz.underlying112, rfl⟩⟩
def ti114 : TI := ⟨false, 1, 8, Value.nilFunc, .other⟩
theorem ti114_ok : TIOk Tryz.prog 114 ti114 := ⟨agg114, size114, bytes114, zero114, ⟨_, Tryz.underlying114, fun _ e => by cases e⟩⟩
def ti117 : TI := ⟨false, 1, 8, Value.nilFunc, .other⟩
theorem ti117_ok : TIOk Tryz.prog 117 ti117 := ⟨agg117, size117, bytes117, zero117, ⟨_, Tryz.underlying117, fun _ e => by cases e⟩⟩
def ti119 : TI := ⟨true, 3, 16, Value.agg #[Value.nilFunc, Value.int IntKind.u8 0, Value.bool Bool.false], .str [(0, 117), (1, 95), (2, 4)]⟩
theorem ti119_ok : TIOk Tryz.prog 119 ti119 := ⟨agg119, size119, bytes119, zero119, ⟨_, Tryz.underlying119, rfl⟩⟩
def ti120 : TI := ⟨false, 1, 24, Value.slice Option.none 0 0, .slice 101⟩
theorem ti120_ok : TIOk Tryz.prog 120 ti120 := ⟨agg120, size120, bytes120, zero120, Tryz.underlying120⟩
def ti126 : TI := ⟨true, 10, 80, Value.agg #[Value.int IntKind.i64 0, Value.int IntKind.i64 0, Value.int IntKind.i64 0, Value.int IntKind.i64 0, Value.int IntKind.i64 0, Value.int IntKind.i64 0, Value.int IntKind.i64 0, Value.int IntKind.i64 0, Value.int IntKind.i64 0, Value.int IntKind.i64 0], .str [(0, 99), (3, 99), (6, 99), (9, 3)]⟩
theorem ti126_ok : TIOk Tryz.prog 126 ti126 := ⟨agg126, size126, bytes126, zero126, ⟨_, Tryz.underlying126, rfl⟩⟩
def ti131 : TI := ⟨false, 1, 8, Value.map Option.none, .other⟩
theorem ti131_ok : TIOk Tryz.prog 131 ti131 := ⟨agg131, size131, bytes131, zero131, ⟨_, Tryz.underlying131, fun _ e => by cases e⟩⟩
def ti133 : TI := ⟨false, 1, 8, Value.int IntKind.u64 0, .int .u64⟩
theorem ti133_ok : TIOk Tryz.prog 133 ti133 := ⟨agg133, size133, bytes133, zero133, Tryz.underlying133⟩
def ti134 : TI := ⟨true, 2, 16, Value.agg #[Value.int IntKind.i64 0, Value.int IntKind.i64 0], .arr 2 3⟩
theorem ti134_ok : TIOk Tryz.prog 134 ti134 := ⟨agg134, size134, bytes134, zero134, Tryz.underlying134⟩
def ti137 : TI := ⟨false, 1, 8, Value.nilFunc, .other⟩
theorem ti137_ok : TIOk Tryz.prog 137 ti137 := ⟨agg137, size137, bytes137, zero137, ⟨_, Tryz.underlying137, fun _ e => by cases e⟩⟩
def ti144 : TI := ⟨false, 1, 8, Value.chan Option.none, .other⟩
theorem ti144_ok : TIOk Tryz.prog 144 ti144 := ⟨agg144, size144, bytes144, zero144, ⟨_, Tryz.underlying144, fun _ e => by cases e⟩⟩
def ti146 : TI := ⟨true, 0, 0, Value.agg #[], .str []⟩
theorem ti146_ok : TIOk Tryz.prog 146 ti146 := ⟨agg146, size146, bytes146, zero146, ⟨_, Tryz.underlying146, rfl⟩⟩
def ti147 : TI := ⟨true, 0, 0, Value.agg #[], .str []⟩
theorem ti147_ok : TIOk Tryz.prog 147 ti147 := ⟨agg147, size147, bytes147, zero147, ⟨_, Tryz.underlying147, rfl⟩⟩
def ti148 : TI := ⟨true, 0, 0, Value.agg #[], .str []⟩
theorem ti148_ok : TIOk Tryz.prog 148 ti148 := ⟨agg148, size148, bytes148, zero148, ⟨_, Tryz.underlying148, rfl⟩⟩
def ti150 : TI := ⟨true, 1, 8, Value.agg #[Value.int IntKind.u64 0], .str [(0, 147), (0, 148), (0, 77)]⟩
theorem ti150_ok : TIOk Tryz.prog 150 ti150 := ⟨agg150, size150, bytes150, zero150, ⟨_, Tryz.underlying150, rfl⟩⟩
def ti151 : TI := ⟨false, 1, 4, Value.int IntKind.u32 0, .int .u32⟩
theorem ti151_ok : TIOk Tryz.prog 151 ti151 := ⟨agg151, size151, bytes151, zero151, Tryz.underlying151⟩
def ti153 : TI := ⟨true, 2, 16, Value.agg #[Value.int IntKind.u64 0, Value.int IntKind.u32 0], .str [(0, 146), (0, 150), (1, 151)]⟩
theorem ti153_ok : TIOk Tryz.prog 153 ti153 := ⟨agg153, size153, bytes153, zero153, ⟨_, Tryz.underlying153, rfl⟩⟩
def ti156 : TI := ⟨false, 1, 8, Value.pointer Option.none, .ptr 119⟩
theorem ti156_ok : TIOk Tryz.prog 156 ti156 := ⟨agg156, size156, bytes156, zero156, Tryz.underlying156⟩
def ti159 : TI := ⟨false, 1, 16, Value.nilIface, .iface⟩
theorem ti159_ok : TIOk Tryz.prog 159 ti159 := ⟨agg159, size159, bytes159, zero159, ⟨_, Tryz.underlying159⟩⟩
def ti163 : TI := ⟨false, 1, 8, Value.nilFunc, .other⟩
theorem ti163_ok : TIOk Tryz.prog 163 ti163 := ⟨agg163, size163, bytes163, zero163, ⟨_, Tryz.underlying163, fun _ e => by cases e⟩⟩
def ti164 : TI := ⟨false, 1, 8, Value.nilFunc, .other⟩
theorem ti164_ok : TIOk Tryz.prog 164 ti164 := ⟨agg164, size164, bytes164, zero164, ⟨_, Tryz.underlying164, fun _ e => by cases e⟩⟩
def ti166 : TI := ⟨false, 1, 16, Value.nilIface, .iface⟩
theorem ti166_ok : TIOk Tryz.prog 166 ti166 := ⟨agg166, size166, bytes166, zero166, ⟨_, Tryz.underlying166⟩⟩
def ti169 : TI := ⟨false, 1, 8, Value.pointer Option.none, .ptr 126⟩
theorem ti169_ok : TIOk Tryz.prog 169 ti169 := ⟨agg169, size169, bytes169, zero169, Tryz.underlying169⟩
def ti170 : TI := ⟨false, 1, 8, Value.pointer Option.none, .ptr 112⟩
theorem ti170_ok : TIOk Tryz.prog 170 ti170 := ⟨agg170, size170, bytes170, zero170, Tryz.underlying170⟩
def ti171 : TI := ⟨false, 1, 8, Value.pointer Option.none, .ptr 153⟩
theorem ti171_ok : TIOk Tryz.prog 171 ti171 := ⟨agg171, size171, bytes171, zero171, Tryz.underlying171⟩
def ti173 : TI := ⟨false, 1, 8, Value.pointer Option.none, .other⟩
theorem ti173_ok : TIOk Tryz.prog 173 ti173 := ⟨agg173, size173, bytes173, zero173, ⟨_, Tryz.underlying173, fun _ e => by cases e⟩⟩
def ti174 : TI := ⟨false, 1, 8, Value.int IntKind.i64 0, .int .i64⟩
theorem ti174_ok : TIOk Tryz.prog 174 ti174 := ⟨agg174, size174, bytes174, zero174, Tryz.underlying174⟩
def ti178 : TI := ⟨false, 1, 8, Value.pointer Option.none, .ptr 151⟩
theorem ti178_ok : TIOk Tryz.prog 178 ti178 := ⟨agg178, size178, bytes178, zero178, Tryz.underlying178⟩
def ti186 : TI := ⟨true, 1, 8, Value.agg #[Value.int IntKind.i64 0], .str [(0, 37)]⟩
theorem ti186_ok : TIOk Tryz.prog 186 ti186 := ⟨agg186, size186, bytes186, zero186, ⟨_, Tryz.underlying186, rfl⟩⟩
def ti188 : TI := ⟨false, 1, 8, Value.pointer Option.none, .ptr 186⟩
theorem ti188_ok : TIOk Tryz.prog 188 ti188 := ⟨agg188, size188, bytes188, zero188, Tryz.underlying188⟩
def ti191 : TI := ⟨true, 2, 16, Value.agg #[Value.int IntKind.i64 0, Value.int IntKind.i64 0], .str [(0, 3), (1, 3)]⟩
theorem ti191_ok : TIOk Tryz.prog 191 ti191 := ⟨agg191, size191, bytes191, zero191, ⟨_, Tryz.underlying191, rfl⟩⟩
def ti193 : TI := ⟨true, 1, 8, Value.agg #[Value.int IntKind.i64 0], .str [(0, 3)]⟩
theorem ti193_ok : TIOk Tryz.prog 193 ti193 := ⟨agg193, size193, bytes193, zero193, ⟨_, Tryz.underlying193, rfl⟩⟩
def ti195 : TI := ⟨true, 2, 16, Value.agg #[Value.int IntKind.i64 0, Value.int IntKind.i64 0], .str [(0, 3), (1, 3)]⟩
theorem ti195_ok : TIOk Tryz.prog 195 ti195 := ⟨agg195, size195, bytes195, zero195, ⟨_, Tryz.underlying195, rfl⟩⟩
def ti196 : TI := ⟨false, 1, 8, Value.pointer Option.none, .ptr 150⟩
theorem ti196_ok : TIOk Tryz.prog 196 ti196 := ⟨agg196, size196, bytes196, zero196, Tryz.underlying196⟩
def ti198 : TI := ⟨false, 1, 8, Value.pointer Option.none, .ptr 77⟩
theorem ti198_ok : TIOk Tryz.prog 198 ti198 := ⟨agg198, size198, bytes198, zero198, Tryz.underlying198⟩
def ti202 : TI := ⟨false, 1, 8, Value.int IntKind.u64 0, .int .u64⟩
theorem ti202_ok : TIOk Tryz.prog 202 ti202 := ⟨agg202, size202, bytes202, zero202, Tryz.underlying202⟩
def ti204 : TI := ⟨true, 3, 24, Value.agg #[Value.pointer Option.none, Value.pointer Option.none, Value.int IntKind.u64 0], .str [(0, 17), (1, 173), (2, 202)]⟩
theorem ti204_ok : TIOk Tryz.prog 204 ti204 := ⟨agg204, size204, bytes204, zero204, ⟨_, Tryz.underlying204, rfl⟩⟩
def ti207 : TI := ⟨false, 1, 16, Value.nilIface, .iface⟩
theorem ti207_ok : TIOk Tryz.prog 207 ti207 := ⟨agg207, size207, bytes207, zero207, ⟨_, Tryz.underlying207⟩⟩
def ti209 : TI := ⟨false, 1, 1, Value.int IntKind.u8 0, .int .u8⟩
theorem ti209_ok : TIOk Tryz.prog 209 ti209 := ⟨agg209, size209, bytes209, zero209, Tryz.underlying209⟩
def ti214 : TI := ⟨true, 1, 8, Value.agg #[Value.pointer Option.none], .str [(0, 17)]⟩
theorem ti214_ok : TIOk Tryz.prog 214 ti214 := ⟨agg214, size214, bytes214, zero214, ⟨_, Tryz.underlying214, rfl⟩⟩
def ti215 : TI := ⟨false, 1, 8, Value.pointer Option.none, .ptr 244⟩
theorem ti215_ok : TIOk Tryz.prog 215 ti215 := ⟨agg215, size215, bytes215, zero215, Tryz.underlying215⟩
def ti219 : TI := ⟨false, 1, 16, Value.nilIface, .iface⟩
theorem ti219_ok : TIOk Tryz.prog 219 ti219 := ⟨agg219, size219, bytes219, zero219, ⟨_, Tryz.underlying219⟩⟩
def ti222 : TI := ⟨false, 1, 16, Value.nilIface, .iface⟩
theorem ti222_ok : TIOk Tryz.prog 222 ti222 := ⟨agg222, size222, bytes222, zero222, ⟨_, Tryz.underlying222⟩⟩
def ti224 : TI := ⟨false, 1, 16, Value.nilIface, .iface⟩
theorem ti224_ok : TIOk Tryz.prog 224 ti224 := ⟨agg224, size224, bytes224, zero224, ⟨_, Tryz.underlying224⟩⟩
def ti225 : TI := ⟨false, 1, 24, Value.slice Option.none 0 0, .slice 159⟩
theorem ti225_ok : TIOk Tryz.prog 225 ti225 := ⟨agg225, size225, bytes225, zero225, Tryz.underlying225⟩
def ti229 : TI := ⟨true, 4, 40, Value.agg #[Value.pointer Option.none, Value.pointer Option.none, Value.pointer Option.none, Value.string { data := #[] }], .str [(0, 17), (1, 17), (2, 17), (3, 9)]⟩
theorem ti229_ok : TIOk Tryz.prog 229 ti229 := ⟨agg229, size229, bytes229, zero229, ⟨_, Tryz.underlying229, rfl⟩⟩
def ti230 : TI := ⟨true, 0, 0, Value.agg #[], .arr 0 16⟩
theorem ti230_ok : TIOk Tryz.prog 230 ti230 := ⟨agg230, size230, bytes230, zero230, Tryz.underlying230⟩
def ti232 : TI := ⟨true, 0, 0, Value.agg #[], .str [(0, 230)]⟩
theorem ti232_ok : TIOk Tryz.prog 232 ti232 := ⟨agg232, size232, bytes232, zero232, ⟨_, Tryz.underlying232, rfl⟩⟩
def ti234 : TI := ⟨false, 1, 1, Value.int IntKind.u8 0, .int .u8⟩
theorem ti234_ok : TIOk Tryz.prog 234 ti234 := ⟨agg234, size234, bytes234, zero234, Tryz.underlying234⟩
def ti235 : TI := ⟨false, 1, 8, Value.nilFunc, .other⟩
theorem ti235_ok : TIOk Tryz.prog 235 ti235 := ⟨agg235, size235, bytes235, zero235, ⟨_, Tryz.underlying235, fun _ e => by cases e⟩⟩
def ti236 : TI := ⟨false, 1, 8, Value.pointer Option.none, .ptr 5⟩
theorem ti236_ok : TIOk Tryz.prog 236 ti236 := ⟨agg236, size236, bytes236, zero236, Tryz.underlying236⟩
def ti237 : TI := ⟨false, 1, 4, Value.int IntKind.i32 0, .int .i32⟩
theorem ti237_ok : TIOk Tryz.prog 237 ti237 := ⟨agg237, size237, bytes237, zero237, Tryz.underlying237⟩
def ti238 : TI := ⟨false, 1, 4, Value.int IntKind.i32 0, .int .i32⟩
theorem ti238_ok : TIOk Tryz.prog 238 ti238 := ⟨agg238, size238, bytes238, zero238, Tryz.underlying238⟩
def ti240 : TI := ⟨true, 11, 48, Value.agg #[Value.int IntKind.u64 0, Value.int IntKind.u64 0, Value.int IntKind.u32 0, Value.int IntKind.u8 0, Value.int IntKind.u8 0, Value.int IntKind.u8 0, Value.int IntKind.u8 0, Value.nilFunc, Value.pointer Option.none, Value.int IntKind.i32 0, Value.int IntKind.i32 0], .str [(0, 12), (1, 12), (2, 151), (3, 234), (4, 5), (5, 5), (6, 209), (7, 235), (8, 236), (9, 237), (10, 238)]⟩
theorem ti240_ok : TIOk Tryz.prog 240 ti240 := ⟨agg240, size240, bytes240, zero240, ⟨_, Tryz.underlying240, rfl⟩⟩
def ti244 : TI := ⟨true, 2, 24, Value.agg #[Value.string { data := #[] }, Value.int IntKind.u8 0], .str [(0, 9), (1, 209)]⟩
theorem ti244_ok : TIOk Tryz.prog 244 ti244 := ⟨agg244, size244, bytes244, zero244, ⟨_, Tryz.underlying244, rfl⟩⟩
def ti245 : TI := ⟨false, 1, 8, Value.pointer Option.none, .ptr 249⟩
theorem ti245_ok : TIOk Tryz.prog 245 ti245 := ⟨agg245, size245, bytes245, zero245, Tryz.underlying245⟩
def ti247 : TI := ⟨false, 1, 2, Value.int IntKind.u16 0, .int .u16⟩
theorem ti247_ok : TIOk Tryz.prog 247 ti247 := ⟨agg247, size247, bytes247, zero247, Tryz.underlying247⟩
def ti249 : TI := ⟨true, 5, 16, Value.agg #[Value.int IntKind.i32 0, Value.int IntKind.u16 0, Value.int IntKind.u16 0, Value.int IntKind.u32 0, Value.int IntKind.u32 0], .str [(0, 237), (1, 247), (2, 247), (3, 151), (4, 151)]⟩
theorem ti249_ok : TIOk Tryz.prog 249 ti249 := ⟨agg249, size249, bytes249, zero249, ⟨_, Tryz.underlying249, rfl⟩⟩
def ti250 : TI := ⟨false, 1, 24, Value.slice Option.none 0 0, .slice 253⟩
theorem ti250_ok : TIOk Tryz.prog 250 ti250 := ⟨agg250, size250, bytes250, zero250, Tryz.underlying250⟩
def ti251 : TI := ⟨false, 1, 4, Value.int IntKind.i32 0, .int .i32⟩
theorem ti251_ok : TIOk Tryz.prog 251 ti251 := ⟨agg251, size251, bytes251, zero251, Tryz.underlying251⟩
def ti253 : TI := ⟨true, 4, 16, Value.agg #[Value.int IntKind.i32 0, Value.int IntKind.i32 0, Value.int IntKind.i32 0, Value.int IntKind.i32 0], .str [(0, 237), (1, 238), (2, 251), (3, 251)]⟩
theorem ti253_ok : TIOk Tryz.prog 253 ti253 := ⟨agg253, size253, bytes253, zero253, ⟨_, Tryz.underlying253, rfl⟩⟩
def ti254 : TI := ⟨false, 1, 8, Value.pointer Option.none, .ptr 159⟩
theorem ti254_ok : TIOk Tryz.prog 254 ti254 := ⟨agg254, size254, bytes254, zero254, Tryz.underlying254⟩
def tau : TT := (.node (.node (.node (.node (.node (.node (.node .nil 0 ti0 .nil) 1 ti1 (.node .nil 2 ti2 .nil)) 3 ti3 (.node (.node .nil 4 ti4 .nil) 5 ti5 .nil)) 6 ti6 (.node (.node (.node .nil 8 ti8 .nil) 9 ti9 .nil) 10 ti10 (.node (.node .nil 11 ti11 .nil) 12 ti12 .nil))) 14 ti14 (.node (.node (.node (.node .nil 15 ti15 .nil) 16 ti16 .nil) 17 ti17 (.node (.node .nil 19 ti19 .nil) 20 ti20 .nil)) 21 ti21 (.node (.node (.node .nil 22 ti22 .nil) 23 ti23 .nil) 24 ti24 (.node (.node .nil 26 ti26 .nil) 28 ti28 .nil)))) 31 ti31 (.node (.node (.node (.node (.node .nil 33 ti33 .nil) 37 ti37 .nil) 73 ti73 (.node (.node .nil 77 ti77 .nil) 79 ti79 .nil)) 83 ti83 (.node (.node (.node .nil 95 ti95 .nil) 99 ti99 .nil) 101 ti101 (.node (.node .nil 110 ti110 .nil) 112 ti112 .nil))) 114 ti114 (.node (.node (.node (.node .nil 117 ti117 .nil) 119 ti119 .nil) 120 ti120 (.node (.node .nil 126 ti126 .nil) 131 ti131 .nil)) 133 ti133 (.node (.node (.node .nil 134 ti134 .nil) 137 ti137 .nil) 144 ti144 (.node (.node .nil 146 ti146 .nil) 147 ti147 .nil))))) 148 ti148 (.node (.node (.node (.node (.node (.node .nil 150 ti150 .nil) 151 ti151 (.node .nil 153 ti153 .nil)) 156 ti156 (.node (.node .nil 159 ti159 .nil) 163 ti163 .nil)) 164 ti164 (.node (.node (.node .nil 166 ti166 .nil) 169 ti169 .nil) 170 ti170 (.node (.node .nil 171 ti171 .nil) 173 ti173 .nil))) 174 ti174 (.node (.node (.node (.node .nil 178 ti178 .nil) 186 ti186 .nil) 188 ti188 (.node (.node .nil 191 ti191 .nil) 193 ti193 .nil)) 195 ti195 (.node (.node (.node .nil 196 ti196 .nil) 198 ti198 .nil) 202 ti202 (.node (.node .nil 204 ti204 .nil) 207 ti207 .nil)))) 209 ti209 (.node (.node (.node (.node (.node .nil 214 ti214 .nil) 215 ti215 .nil) 219 ti219 (.node (.node .nil 222 ti222 .nil) 224 ti224 .nil)) 225 ti225 (.node (.node (.node .nil 229 ti229 .nil) 230 ti230 .nil) 232 ti232 (.node (.node .nil 234 ti234 .nil) 235 ti235 .nil))) 236 ti236 (.node (.node (.node (.node .nil 237 ti237 .nil) 238 ti238 .nil) 240 ti240 (.node (.node .nil 244 ti244 .nil) 245 ti245 .nil)) 247 ti247 (.node (.node (.node .nil 249 ti249 .nil) 250 ti250 .nil) 251 ti251 (.node (.node .nil 253 ti253 .nil) 254 ti254 .nil))))))
theorem tauOk : tau.Ok Tryz.prog := ⟨⟨⟨⟨⟨⟨⟨trivial, ti0_ok, trivial⟩, ti1_ok, ⟨trivial, ti2_ok, trivial⟩⟩, ti3_ok, ⟨⟨trivial, ti4_ok, trivial⟩, ti5_ok, trivial⟩⟩, ti6_ok, ⟨⟨⟨trivial, ti8_ok, trivial⟩, ti9_ok, trivial⟩, ti10_ok, ⟨⟨trivial, ti11_ok, trivial⟩, ti12_ok, trivial⟩⟩⟩, ti14_ok, ⟨⟨⟨⟨trivial, ti15_ok, trivial⟩, ti16_ok, trivial⟩, ti17_ok, ⟨⟨trivial, ti19_ok, trivial⟩, ti20_ok, trivial⟩⟩, ti21_ok, ⟨⟨⟨trivial, ti22_ok, trivial⟩, ti23_ok, trivial⟩, ti24_ok, ⟨⟨trivial, ti26_ok, trivial⟩, ti28_ok, trivial⟩⟩⟩⟩, ti31_ok, ⟨⟨⟨⟨⟨trivial, ti33_ok, trivial⟩, ti37_ok, trivial⟩, ti73_ok, ⟨⟨trivial, ti77_ok, trivial⟩, ti79_ok, trivial⟩⟩, ti83_ok, ⟨⟨⟨trivial, ti95_ok, trivial⟩, ti99_ok, trivial⟩, ti101_ok, ⟨⟨trivial, ti110_ok, trivial⟩, ti112_ok, trivial⟩⟩⟩, ti114_ok, ⟨⟨⟨⟨trivial, ti117_ok, trivial⟩, ti119_ok, trivial⟩, ti120_ok, ⟨⟨trivial, ti126_ok, trivial⟩, ti131_ok, trivial⟩⟩, ti133_ok, ⟨⟨⟨trivial, ti134_ok, trivial⟩, ti137_ok, trivial⟩, ti144_ok, ⟨⟨trivial, ti146_ok, trivial⟩, ti147_ok, trivial⟩⟩⟩⟩⟩, ti148_ok, ⟨⟨⟨⟨⟨⟨trivial, ti150_ok, trivial⟩, ti151_ok, ⟨trivial, ti153_ok, trivial⟩⟩, ti156_ok, ⟨⟨trivial, ti159_ok, trivial⟩, ti163_ok, trivial⟩⟩, ti164_ok, ⟨⟨⟨trivial, ti166_ok, trivial⟩, ti169_ok, trivial⟩, ti170_ok, ⟨⟨trivial, ti171_ok, trivial⟩, ti173_ok, trivial⟩⟩⟩, ti174_ok, ⟨⟨⟨⟨trivial, ti178_ok, trivial⟩, ti186_ok, trivial⟩, ti188_ok, ⟨⟨trivial, ti191_ok, trivial⟩, ti193_ok, trivial⟩⟩, ti195_ok, ⟨⟨⟨trivial, ti196_ok, trivial⟩, ti198_ok, trivial⟩, ti202_ok, ⟨⟨trivial, ti204_ok, trivial⟩, ti207_ok, trivial⟩⟩⟩⟩, ti209_ok, ⟨⟨⟨⟨⟨trivial, ti214_ok, trivial⟩, ti215_ok, trivial⟩, ti219_ok, ⟨⟨trivial, ti222_ok, trivial⟩, ti224_ok, trivial⟩⟩, ti225_ok, ⟨⟨⟨trivial, ti229_ok, trivial⟩, ti230_ok, trivial⟩, ti232_ok, ⟨⟨trivial, ti234_ok, trivial⟩, ti235_ok, trivial⟩⟩⟩, ti236_ok, ⟨⟨⟨⟨trivial, ti237_ok, trivial⟩, ti238_ok, trivial⟩, ti240_ok, ⟨⟨trivial, ti244_ok, trivial⟩, ti245_ok, trivial⟩⟩, ti247_ok, ⟨⟨⟨trivial, ti249_ok, trivial⟩, ti250_ok, trivial⟩, ti251_ok, ⟨⟨trivial, ti253_ok, trivial⟩, ti254_ok, trivial⟩⟩⟩⟩⟩⟩
instance : Seat Tryz.prog := ⟨tau, tauOk⟩
end Go.Mz


namespace Go.Mz
open Go.Conc
section
variable {P : Program} {X : Logic P} {T : Array Value} {L : LH} {Q : Value → LH → Prop}
theorem wpS_callExt {g : FuncId} {fn : Func} {args : Array Value} {e : Array Value → Sem Value} {Q : Next → LH → Prop} {H : Value → LH → Prop} (hf : P.funcs[g]? = some fn) (hn : (fn.name == "runtime.NumGoroutine") = false) (hb : fn.body.isNone = true) (hx : Extern.findNext fn = none) (he : Extern.find fn = some e)
  (h : wpS P (fun v L' => Q (.value v) L') H (e args) L) : wpS P Q H (callFunc g args) L := by
 unfold callFunc
 rw [wpS_bind, wpS_program]
 simp only [hf, hn, hb, hx, he, Bool.false_eq_true, if_false, if_true]
 rw [wpS_bind]
 refine ⟨.inr ⟨g, rfl⟩, ?_⟩
 show wpS P Q H (e args >>= fun v => pure (Next.value v)) L
 rw [wpS_bind]
 exact h
end
structure Ext (P : Program) (g : FuncId) (fn : Func) (e : Array Value → Sem Value) : Prop where
 func : P.funcs[g]? = some fn
 name : (fn.name == "runtime.NumGoroutine") = false
 body : fn.body.isNone = true
 next : Extern.findNext fn = none
 find : Extern.find fn = some e
def SpE (P : Program) (g : FuncId) (args : List Value) (L : LH) (Q : Value → LH → Prop) : Prop :=
 ∃ fn e, Ext P g fn e ∧ ∀ R, Le L R → wpS P (fun v R' => ∃ L', Q v L' ∧ Post L R L' R') (fun _ _ => False) (e args.toArray) R
theorem Post.refl {L R : LH} (h : Le L R) : Post L R L R := ⟨h, fun _ _ _ h => h, fun _ h => .inl h, fun _ h => h⟩
theorem Post.new {L R : LH} (h : Le L R) {b : Nat} (hb : R b = none) (o : Obj) : Post L R (L.put b o) (R.put b o) where
 le := fun b' x hx => by
  by_cases e : b' = b
  ·subst e; rw [put_same] at hx ⊢; exact hx
  ·rw [put_ne _ _ e] at hx ⊢; exact h _ _ hx
 keep := fun b' x h1 h2 => by rw [put_ne _ _ (fun e => by subst e; rw [hb] at h2; cases h2)]; exact h2
 fresh := fun b' hb' => by
  by_cases e : b' = b
  ·subst e; exact .inr hb
  ·rw [put_ne _ _ e] at hb'; exact .inl hb'
 dom := fun b' hb' => by
  by_cases e : b' = b
  ·subst e; rw [put_same]; simp
  ·rw [put_ne _ _ e]; exact hb'
theorem Post.set {L R R' : LH} (h : Le L R) {b : Nat} {o' o : Obj} (hb : L b = some (o', true)) (h1 : R' b = some (o, true)) (h2 : ∀ b', b' ≠ b → R' b' = R b') : Post L R (L.put b o) R' where
 le := fun b' x hx => by
  by_cases e : b' = b
  ·subst e; rw [put_same] at hx; rw [h1]; exact hx
  ·rw [put_ne _ _ e] at hx; rw [h2 _ e]; exact h _ _ hx
 keep := fun b' x g1 g2 => by rw [h2 _ (fun e => by subst e; rw [hb] at g1; cases g1)]; exact g2
 fresh := fun b' hb' => by
  by_cases e : b' = b
  ·subst e; exact .inl (by rw [hb]; simp)
  ·rw [put_ne _ _ e] at hb'; exact .inl hb'
 dom := fun b' hb' => by
  by_cases e : b' = b
  ·subst e; rw [put_same]; simp
  ·rw [put_ne _ _ e]; exact hb'
section
variable {P : Program} {C : Cx P} {E : Look} {B : List (Option Bx)} {L : LH} {dst : Option Tmp} {ty : TypeId} {pos : String} {af : Array Edge} {gd : Option (Nat × Bool)}
theorem wpS_invoked {β : Nm} {R : LH} {g : FuncId} {args : List Value} {Q : Value → LH → Prop} (hH : HeapOk C.L0 C.R0 β B L R) (h : Sp C.X g args L Q ∨ SpE P g args L Q) :
  wpS P (fun nx L' => match nx with
   | .value v => ∃ sv B' L'', CallQ B Q sv B' L'' ∧ den β sv = some v ∧ HeapOk C.L0 C.R0 β B' L'' L' ∧ ∀ kk, β kk = none → B'[kk]? = B[kk]?
   | .skip => ∃ sv B' L'', CallQ B Q sv B' L'' ∧ den β sv = some undef ∧ HeapOk C.L0 C.R0 β B' L'' L' ∧ ∀ kk, β kk = none → B'[kk]? = B[kk]?
   | .enter g args => ∃ Q' : Value → LH → Prop, Fn C.X g args L' Q' ∧ ∀ v L1, Q' v L1 → ∃ sv B' L'', CallQ B Q sv B' L'' ∧ den β sv = some v ∧ HeapOk C.L0 C.R0 β B' L'' L1 ∧ ∀ kk, β kk = none → B'[kk]? = B[kk]?
   | .round l g tmps asg body => ∃ Q' : Value → LH → Prop, FnF C.X (Frame.round l g tmps asg body .normal) L' Q' ∧ ∀ v L1, Q' v L1 → ∃ sv B' L'', CallQ B Q sv B' L'' ∧ den β sv = some v ∧ HeapOk C.L0 C.R0 β B' L'' L1 ∧ ∀ kk, β kk = none → B'[kk]? = B[kk]?
   | _ => False) (fun _ _ => False) (callFunc g args.toArray) R := by
 have fin : ∀ v R', (∃ L', Q v L' ∧ Post L R L' R') → ∃ sv B' L', CallQ B Q sv B' L' ∧ den β sv = some v ∧ HeapOk C.L0 C.R0 β B' L' R' ∧ ∀ kk, β kk = none → B'[kk]? = B[kk]? := fun v R' ⟨L', hq, hp⟩ => ⟨.v v, B, L', ⟨v, rfl, rfl, hq⟩, rfl, hH.call hp, fun _ _ => rfl⟩
 rcases h with ⟨⟨fn, h1, h2, h3⟩, hf⟩ | ⟨fn, e, h1, h2⟩
 ·rw [wpS_callFunc h1 h2 h3]
  exact ⟨_, (hf R hH.le).mono (Q' := fun v R' => ∃ L', Q v L' ∧ Post L R L' R') (H' := fun _ _ => False) (fun _ _ h => h) (fun ch R' ⟨L', h, _⟩ => h), fin⟩
 ·refine wpS_callExt h1.func h1.name h1.body h1.next h1.find (wpS_mono (fun v R' hv => fin v R' hv) (fun _ _ h => h) _ _ (h2 R hH.le))
theorem Ef.ext {g : FuncId} {xs : Array Operand} {ts : Array TypeId} {args : List Value} {Q : Value → LH → Prop} (ha : denA E xs.toList = some args) (hs : SpE P g args L Q) : Ef C ⟨dst, .call { callee := .value (.func g), args := xs, argTypes := ts }, ty, pos, af, gd⟩ E B L (CallQ B Q) := by
 intro T R β hE hH
 have hx : xs.map (ev T) = args.toArray := by rw [← denA_ok hE ha, ← List.map_toArray]
 refine ⟨rfl, ?_⟩
 simp only [execOp, resolve, ev, Deferred.ofValue, hx]
 rw [wpS_bind, wpS_pure]
 simp only [invoke, Array.empty_append, Array.append_empty]
 exact wpS_invoked hH (.inr hs)
theorem Ef.inv {x : Operand} {sv : SV} {name : String} {t : TypeId} {v rv : Value} {g : FuncId} {xs : Array Operand} {ts : Array TypeId} {args : List Value} {Q : Value → LH → Prop} (hx : evS E x = some sv) (hd : den nm0 sv = some (.iface t v)) (ha : denA E xs.toList = some args)
  (hm : ∀ (Q : FuncId × Value → LH → Prop) (H : Value → LH → Prop) (R : LH), wpS P Q H (method (P.types.size + Made.depth) t v name) R = Q (g, rv) R) (hs : Sp C.X g (rv :: args) L Q ∨ SpE P g (rv :: args) L Q) :
  Ef C ⟨dst, .call { callee := .invoke x name, args := xs, argTypes := ts }, ty, pos, af, gd⟩ E B L (CallQ B Q) := by
 intro T R β hE hH
 have ex : ev T x = .iface t v := Option.some.inj ((hE.val hx).symm.trans (den_nil hd β))
 have hxs : xs.map (ev T) = args.toArray := by rw [← denA_ok hE ha, ← List.map_toArray]
 refine ⟨rfl, ?_⟩
 simp only [execOp, resolve, hxs, ex]
 rw [wpS_bind, wpS_pure]
 simp only [invoke]
 have e0 : (#[Value.iface t v] ++ args.toArray)[0]? = some (.iface t v) := by simp
 simp only [e0]
 have e1 : (#[Value.iface t v] ++ args.toArray).extract 1 (#[Value.iface t v] ++ args.toArray).size = args.toArray := by simp
 rw [e1]
 unfold callMethod
 simp only
 rw [wpS_bind, wpS_program, wpS_bind, hm]
 have e2 : #[rv] ++ args.toArray = (rv :: args).toArray := by simp
 simp only [e2]
 exact wpS_invoked hH hs
end
section
variable {P : Program} {g : FuncId} {fn : Func} {e : Array Value → Sem Value} {args : List Value} {L : LH} {v : Value}
theorem SpE.pure (h : Ext P g fn e) (hw : ∀ (Q : Value → LH → Prop) (H : Value → LH → Prop) (R : LH), wpS P Q H (e args.toArray) R = Q v R) : SpE P g args L (fun u L' => u = v ∧ L = L') :=
 ⟨fn, e, h, fun R hR => by rw [hw]; exact ⟨L, ⟨rfl, rfl⟩, Post.refl hR⟩⟩
theorem SpE.read (h : Ext P g fn e) (hw : ∀ (Q : Value → LH → Prop) (H : Value → LH → Prop) (R : LH), Le L R → wpS P Q H (e args.toArray) R = Q v R) : SpE P g args L (fun u L' => u = v ∧ L = L') :=
 ⟨fn, e, h, fun R hR => by rw [hw _ _ _ hR]; exact ⟨L, ⟨rfl, rfl⟩, Post.refl hR⟩⟩
theorem SpE.alloc {mk : Nat → Value} {o : Obj} (h : Ext P g fn e) (hw : ∀ (Q : Value → LH → Prop) (H : Value → LH → Prop) (R : LH), wpS P Q H (e args.toArray) R = ∀ b, R b = none → Q (mk b) (R.put b o)) : SpE P g args L (fun u L' => ∃ b, L b = none ∧ u = mk b ∧ L' = L.put b o) :=
 ⟨fn, e, h, fun R hR => by rw [hw]; exact fun b hb => ⟨_, ⟨b, none_of_le hR hb, rfl, rfl⟩, Post.new hR hb o⟩⟩
end
end Go.Mz

