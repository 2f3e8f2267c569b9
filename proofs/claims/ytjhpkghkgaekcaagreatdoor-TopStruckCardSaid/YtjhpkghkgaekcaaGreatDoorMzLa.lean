/- Lemmas on which the claim leans. -/
import Derived.Test.YtjhpkghkgaekcaaGreatDoorMzAn
import Derived.Test.YtjhpkghkgaekcaaGreatDoorProg
import Derived.KernelRfl
namespace Go.Mz
open Go.Proofs
theorem agg0 : aggB Tryz.prog 0 = some false := agg_of Tryz.underlying0 rfl
theorem size0 : (Tryz.prog.info? 0).map (·.size) = some 1 := by kernel_rfl
theorem zero0 : (Tryz.prog.info? 0).bind (·.zero) = Option.some (Go.Value.tuple #[]) := by kernel_rfl
theorem bytes0 : (Tryz.prog.info? 0).map (·.bytes) = some 0 := by kernel_rfl
theorem agg1 : aggB Tryz.prog 1 = some false := agg_of Tryz.underlying1 rfl
theorem size1 : (Tryz.prog.info? 1).map (·.size) = some 1 := by kernel_rfl
theorem zero1 : (Tryz.prog.info? 1).bind (·.zero) = Option.some Go.Value.nilFunc := by kernel_rfl
theorem bytes1 : (Tryz.prog.info? 1).map (·.bytes) = some 8 := by kernel_rfl
theorem agg2 : aggB Tryz.prog 2 = some false := agg_of Tryz.underlying2 rfl
theorem size2 : (Tryz.prog.info? 2).map (·.size) = some 1 := by kernel_rfl
theorem zero2 : (Tryz.prog.info? 2).bind (·.zero) = Option.some (Go.Value.int Go.IntKind.i64 0) := by kernel_rfl
theorem bytes2 : (Tryz.prog.info? 2).map (·.bytes) = some 8 := by kernel_rfl
theorem agg3 : aggB Tryz.prog 3 = some false := agg_of Tryz.underlying3 rfl
theorem size3 : (Tryz.prog.info? 3).map (·.size) = some 1 := by kernel_rfl
theorem zero3 : (Tryz.prog.info? 3).bind (·.zero) = Option.some (Go.Value.int Go.IntKind.i64 0) := by kernel_rfl
theorem bytes3 : (Tryz.prog.info? 3).map (·.bytes) = some 8 := by kernel_rfl
theorem agg4 : aggB Tryz.prog 4 = some false := agg_of Tryz.underlying4 rfl
theorem size4 : (Tryz.prog.info? 4).map (·.size) = some 1 := by kernel_rfl
theorem zero4 : (Tryz.prog.info? 4).bind (·.zero) = Option.some (Go.Value.bool Bool.false) := by kernel_rfl
theorem bytes4 : (Tryz.prog.info? 4).map (·.bytes) = some 1 := by kernel_rfl
theorem agg5 : aggB Tryz.prog 5 = some false := agg_of Tryz.underlying5 rfl
theorem size5 : (Tryz.prog.info? 5).map (·.size) = some 1 := by kernel_rfl
theorem zero5 : (Tryz.prog.info? 5).bind (·.zero) = Option.some (Go.Value.int Go.IntKind.u8 0) := by kernel_rfl
theorem bytes5 : (Tryz.prog.info? 5).map (·.bytes) = some 1 := by kernel_rfl
theorem agg6 : aggB Tryz.prog 6 = some false := agg_of Tryz.underlying6 rfl
theorem size6 : (Tryz.prog.info? 6).map (·.size) = some 1 := by kernel_rfl
theorem zero6 : (Tryz.prog.info? 6).bind (·.zero) = Option.some (Go.Value.int Go.IntKind.u8 0) := by kernel_rfl
theorem bytes6 : (Tryz.prog.info? 6).map (·.bytes) = some 1 := by kernel_rfl
theorem agg7 : aggB Tryz.prog 7 = some true := agg_of Tryz.underlying7 rfl
theorem size7 : (Tryz.prog.info? 7).map (·.size) = some 4 := by kernel_rfl
theorem zero7 : (Tryz.prog.info? 7).bind (·.zero) = Option.some (Go.Value.agg #[Go.Value.int Go.IntKind.i64 0, Go.Value.int Go.IntKind.i64 0, Go.Value.bool Bool.false, Go.Value.int Go.IntKind.u8 0]) := by kernel_rfl
theorem bytes7 : (Tryz.prog.info? 7).map (·.bytes) = some 24 := by kernel_rfl
theorem agg8 : aggB Tryz.prog 8 = some true := agg_of Tryz.underlying8 rfl
theorem size8 : (Tryz.prog.info? 8).map (·.size) = some 4 := by kernel_rfl
theorem zero8 : (Tryz.prog.info? 8).bind (·.zero) = Option.some (Go.Value.agg #[Go.Value.int Go.IntKind.i64 0, Go.Value.int Go.IntKind.i64 0, Go.Value.bool Bool.false, Go.Value.int Go.IntKind.u8 0]) := by kernel_rfl
theorem bytes8 : (Tryz.prog.info? 8).map (·.bytes) = some 24 := by kernel_rfl
theorem agg9 : aggB Tryz.prog 9 = some false := agg_of Tryz.underlying9 rfl
theorem size9 : (Tryz.prog.info? 9).map (·.size) = some 1 := by kernel_rfl
theorem zero9 : (Tryz.prog.info? 9).bind (·.zero) = Option.some (Go.Value.string { data := #[] }) := by kernel_rfl
theorem bytes9 : (Tryz.prog.info? 9).map (·.bytes) = some 16 := by kernel_rfl
theorem agg10 : aggB Tryz.prog 10 = some false := agg_of Tryz.underlying10 rfl
theorem size10 : (Tryz.prog.info? 10).map (·.size) = some 1 := by kernel_rfl
theorem zero10 : (Tryz.prog.info? 10).bind (·.zero) = Option.some (Go.Value.string { data := #[] }) := by kernel_rfl
theorem bytes10 : (Tryz.prog.info? 10).map (·.bytes) = some 16 := by kernel_rfl
theorem agg11 : aggB Tryz.prog 11 = some false := agg_of Tryz.underlying11 rfl
theorem size11 : (Tryz.prog.info? 11).map (·.size) = some 1 := by kernel_rfl
theorem zero11 : (Tryz.prog.info? 11).bind (·.zero) = Option.some (Go.Value.string { data := #[] }) := by kernel_rfl
theorem bytes11 : (Tryz.prog.info? 11).map (·.bytes) = some 16 := by kernel_rfl
theorem agg12 : aggB Tryz.prog 12 = some false := agg_of Tryz.underlying12 rfl
theorem size12 : (Tryz.prog.info? 12).map (·.size) = some 1 := by kernel_rfl
theorem zero12 : (Tryz.prog.info? 12).bind (·.zero) = Option.some (Go.Value.int Go.IntKind.u64 0) := by kernel_rfl
theorem bytes12 : (Tryz.prog.info? 12).map (·.bytes) = some 8 := by kernel_rfl
theorem agg14 : aggB Tryz.prog 14 = some true := agg_of Tryz.underlying14 rfl
theorem size14 : (Tryz.prog.info? 14).map (·.size) = some 2 := by kernel_rfl
theorem zero14 : (Tryz.prog.info? 14).bind (·.zero) = Option.some (Go.Value.agg #[Go.Value.string { data := #[] }, Go.Value.int Go.IntKind.u64 0]) := by kernel_rfl
theorem bytes14 : (Tryz.prog.info? 14).map (·.bytes) = some 24 := by kernel_rfl
theorem agg15 : aggB Tryz.prog 15 = some false := agg_of Tryz.underlying15 rfl
theorem size15 : (Tryz.prog.info? 15).map (·.size) = some 1 := by kernel_rfl
theorem zero15 : (Tryz.prog.info? 15).bind (·.zero) = Option.some (Go.Value.pointer Option.none) := by kernel_rfl
theorem bytes15 : (Tryz.prog.info? 15).map (·.bytes) = some 8 := by kernel_rfl
theorem agg16 : aggB Tryz.prog 16 = some false := agg_of Tryz.underlying16 rfl
theorem size16 : (Tryz.prog.info? 16).map (·.size) = some 1 := by kernel_rfl
theorem zero16 : (Tryz.prog.info? 16).bind (·.zero) = Option.some (Go.Value.pointer Option.none) := by kernel_rfl
theorem bytes16 : (Tryz.prog.info? 16).map (·.bytes) = some 8 := by kernel_rfl
theorem agg17 : aggB Tryz.prog 17 = some false := agg_of Tryz.underlying17 rfl
theorem size17 : (Tryz.prog.info? 17).map (·.size) = some 1 := by kernel_rfl
theorem zero17 : (Tryz.prog.info? 17).bind (·.zero) = Option.some (Go.Value.pointer Option.none) := by kernel_rfl
theorem bytes17 : (Tryz.prog.info? 17).map (·.bytes) = some 8 := by kernel_rfl
theorem agg19 : aggB Tryz.prog 19 = some true := agg_of Tryz.underlying19 rfl
theorem size19 : (Tryz.prog.info? 19).map (·.size) = some 1 := by kernel_rfl
theorem zero19 : (Tryz.prog.info? 19).bind (·.zero) = Option.some (Go.Value.agg #[Go.Value.pointer Option.none]) := by kernel_rfl
theorem bytes19 : (Tryz.prog.info? 19).map (·.bytes) = some 8 := by kernel_rfl
theorem agg20 : aggB Tryz.prog 20 = some false := agg_of Tryz.underlying20 rfl
theorem size20 : (Tryz.prog.info? 20).map (·.size) = some 1 := by kernel_rfl
theorem zero20 : (Tryz.prog.info? 20).bind (·.zero) = Option.some Go.Value.nilIface := by kernel_rfl
theorem bytes20 : (Tryz.prog.info? 20).map (·.bytes) = some 16 := by kernel_rfl
theorem agg21 : aggB Tryz.prog 21 = some false := agg_of Tryz.underlying21 rfl
theorem size21 : (Tryz.prog.info? 21).map (·.size) = some 1 := by kernel_rfl
theorem zero21 : (Tryz.prog.info? 21).bind (·.zero) = Option.some (Go.Value.int Go.IntKind.i32 0) := by kernel_rfl
theorem bytes21 : (Tryz.prog.info? 21).map (·.bytes) = some 4 := by kernel_rfl
theorem agg22 : aggB Tryz.prog 22 = some false := agg_of Tryz.underlying22 rfl
theorem size22 : (Tryz.prog.info? 22).map (·.size) = some 1 := by kernel_rfl
theorem zero22 : (Tryz.prog.info? 22).bind (·.zero) = Option.some (Go.Value.slice Option.none 0 0) := by kernel_rfl
theorem bytes22 : (Tryz.prog.info? 22).map (·.bytes) = some 24 := by kernel_rfl
theorem agg23 : aggB Tryz.prog 23 = some false := agg_of Tryz.underlying23 rfl
theorem size23 : (Tryz.prog.info? 23).map (·.size) = some 1 := by kernel_rfl
theorem zero23 : (Tryz.prog.info? 23).bind (·.zero) = Option.some (Go.Value.pointer Option.none) := by kernel_rfl
theorem bytes23 : (Tryz.prog.info? 23).map (·.bytes) = some 8 := by kernel_rfl
theorem agg25 : aggB Tryz.prog 25 = some false := agg_of Tryz.underlying25 rfl
theorem size25 : (Tryz.prog.info? 25).map (·.size) = some 1 := by kernel_rfl
theorem zero25 : (Tryz.prog.info? 25).bind (·.zero) = Option.some (Go.Value.slice Option.none 0 0) := by kernel_rfl
theorem bytes25 : (Tryz.prog.info? 25).map (·.bytes) = some 24 := by kernel_rfl
theorem agg26 : aggB Tryz.prog 26 = some false := agg_of Tryz.underlying26 rfl
theorem size26 : (Tryz.prog.info? 26).map (·.size) = some 1 := by kernel_rfl
theorem zero26 : (Tryz.prog.info? 26).bind (·.zero) = Option.some (Go.Value.slice Option.none 0 0) := by kernel_rfl
theorem bytes26 : (Tryz.prog.info? 26).map (·.bytes) = some 24 := by kernel_rfl
theorem agg28 : aggB Tryz.prog 28 = some true := agg_of Tryz.underlying28 rfl
theorem size28 : (Tryz.prog.info? 28).map (·.size) = some 5 := by kernel_rfl
theorem zero28 : (Tryz.prog.info? 28).bind (·.zero) = Option.some (Go.Value.agg #[Go.Value.slice Option.none 0 0, Go.Value.slice Option.none 0 0, Go.Value.slice Option.none 0 0, Go.Value.slice Option.none 0 0, Go.Value.slice Option.none 0 0]) := by kernel_rfl
theorem bytes28 : (Tryz.prog.info? 28).map (·.bytes) = some 120 := by kernel_rfl
theorem agg33 : aggB Tryz.prog 33 = some false := agg_of Tryz.underlying33 rfl
theorem size33 : (Tryz.prog.info? 33).map (·.size) = some 1 := by kernel_rfl
theorem zero33 : (Tryz.prog.info? 33).bind (·.zero) = Option.some (Go.Value.slice Option.none 0 0) := by kernel_rfl
theorem bytes33 : (Tryz.prog.info? 33).map (·.bytes) = some 24 := by kernel_rfl
theorem agg35 : aggB Tryz.prog 35 = some true := agg_of Tryz.underlying35 rfl
theorem size35 : (Tryz.prog.info? 35).map (·.size) = some 3 := by kernel_rfl
theorem zero35 : (Tryz.prog.info? 35).bind (·.zero) = Option.some (Go.Value.agg #[Go.Value.int Go.IntKind.i64 0, Go.Value.int Go.IntKind.i64 0, Go.Value.int Go.IntKind.i64 0]) := by kernel_rfl
theorem bytes35 : (Tryz.prog.info? 35).map (·.bytes) = some 24 := by kernel_rfl
theorem agg38 : aggB Tryz.prog 38 = some true := agg_of Tryz.underlying38 rfl
theorem size38 : (Tryz.prog.info? 38).map (·.size) = some 2 := by kernel_rfl
theorem zero38 : (Tryz.prog.info? 38).bind (·.zero) = Option.some (Go.Value.agg #[Go.Value.int Go.IntKind.i64 0, Go.Value.slice Option.none 0 0]) := by kernel_rfl
theorem bytes38 : (Tryz.prog.info? 38).map (·.bytes) = some 32 := by kernel_rfl
theorem agg39 : aggB Tryz.prog 39 = some false := agg_of Tryz.underlying39 rfl
theorem size39 : (Tryz.prog.info? 39).map (·.size) = some 1 := by kernel_rfl
theorem zero39 : (Tryz.prog.info? 39).bind (·.zero) = Option.some (Go.Value.int Go.IntKind.i64 0) := by kernel_rfl
theorem bytes39 : (Tryz.prog.info? 39).map (·.bytes) = some 8 := by kernel_rfl
theorem agg45 : aggB Tryz.prog 45 = some false := agg_of Tryz.underlying45 rfl
theorem size45 : (Tryz.prog.info? 45).map (·.size) = some 1 := by kernel_rfl
theorem zero45 : (Tryz.prog.info? 45).bind (·.zero) = Option.some (Go.Value.slice Option.none 0 0) := by kernel_rfl
theorem bytes45 : (Tryz.prog.info? 45).map (·.bytes) = some 24 := by kernel_rfl
theorem agg46 : aggB Tryz.prog 46 = some false := agg_of Tryz.underlying46 rfl
theorem size46 : (Tryz.prog.info? 46).map (·.size) = some 1 := by kernel_rfl
theorem zero46 : (Tryz.prog.info? 46).bind (·.zero) = Option.some (Go.Value.slice Option.none 0 0) := by kernel_rfl
theorem bytes46 : (Tryz.prog.info? 46).map (·.bytes) = some 24 := by kernel_rfl
theorem agg48 : aggB Tryz.prog 48 = some true := agg_of Tryz.underlying48 rfl
theorem size48 : (Tryz.prog.info? 48).map (·.size) = some 5 := by kernel_rfl
theorem zero48 : (Tryz.prog.info? 48).bind (·.zero) = Option.some (Go.Value.agg #[Go.Value.slice Option.none 0 0, Go.Value.slice Option.none 0 0, Go.Value.slice Option.none 0 0, Go.Value.slice Option.none 0 0, Go.Value.slice Option.none 0 0]) := by kernel_rfl
theorem bytes48 : (Tryz.prog.info? 48).map (·.bytes) = some 120 := by kernel_rfl
theorem agg49 : aggB Tryz.prog 49 = some false := agg_of Tryz.underlying49 rfl
theorem size49 : (Tryz.prog.info? 49).map (·.size) = some 1 := by kernel_rfl
theorem zero49 : (Tryz.prog.info? 49).bind (·.zero) = Option.some (Go.Value.slice Option.none 0 0) := by kernel_rfl
theorem bytes49 : (Tryz.prog.info? 49).map (·.bytes) = some 24 := by kernel_rfl
theorem agg50 : aggB Tryz.prog 50 = some false := agg_of Tryz.underlying50 rfl
theorem size50 : (Tryz.prog.info? 50).map (·.size) = some 1 := by kernel_rfl
theorem zero50 : (Tryz.prog.info? 50).bind (·.zero) = Option.some (Go.Value.slice Option.none 0 0) := by kernel_rfl
theorem bytes50 : (Tryz.prog.info? 50).map (·.bytes) = some 24 := by kernel_rfl
theorem agg52 : aggB Tryz.prog 52 = some true := agg_of Tryz.underlying52 rfl
theorem size52 : (Tryz.prog.info? 52).map (·.size) = some 4 := by kernel_rfl
theorem zero52 : (Tryz.prog.info? 52).bind (·.zero) = Option.some (Go.Value.agg #[Go.Value.slice Option.none 0 0, Go.Value.slice Option.none 0 0, Go.Value.int Go.IntKind.i64 0, Go.Value.slice Option.none 0 0]) := by kernel_rfl
theorem bytes52 : (Tryz.prog.info? 52).map (·.bytes) = some 80 := by kernel_rfl
theorem agg56 : aggB Tryz.prog 56 = some true := agg_of Tryz.underlying56 rfl
theorem size56 : (Tryz.prog.info? 56).map (·.size) = some 16 := by kernel_rfl
theorem zero56 : (Tryz.prog.info? 56).bind (·.zero) = Option.some (Go.Value.agg #[Go.Value.slice Option.none 0 0, Go.Value.slice Option.none 0 0, Go.Value.slice Option.none 0 0, Go.Value.slice Option.none 0 0, Go.Value.slice Option.none 0 0, Go.Value.slice Option.none 0 0, Go.Value.slice Option.none 0 0, Go.Value.slice Option.none 0 0, Go.Value.slice Option.none 0 0, Go.Value.slice Option.none 0 0, Go.Value.slice Option.none 0 0, Go.Value.slice Option.none 0 0, Go.Value.int Go.IntKind.i64 0, Go.Value.slice Option.none 0 0, Go.Value.slice Option.none 0 0, Go.Value.slice Option.none 0 0]) := by kernel_rfl
theorem bytes56 : (Tryz.prog.info? 56).map (·.bytes) = some 368 := by kernel_rfl
theorem agg63 : aggB Tryz.prog 63 = some false := agg_of Tryz.underlying63 rfl
theorem size63 : (Tryz.prog.info? 63).map (·.size) = some 1 := by kernel_rfl
theorem zero63 : (Tryz.prog.info? 63).bind (·.zero) = Option.some Go.Value.nilFunc := by kernel_rfl
theorem bytes63 : (Tryz.prog.info? 63).map (·.bytes) = some 8 := by kernel_rfl
theorem agg68 : aggB Tryz.prog 68 = some true := agg_of Tryz.underlying68 rfl
theorem size68 : (Tryz.prog.info? 68).map (·.size) = some 4 := by kernel_rfl
theorem zero68 : (Tryz.prog.info? 68).bind (·.zero) = Option.some (Go.Value.agg #[Go.Value.int Go.IntKind.i64 0, Go.Value.int Go.IntKind.i64 0, Go.Value.int Go.IntKind.i64 0, Go.Value.int Go.IntKind.i64 0]) := by kernel_rfl
theorem bytes68 : (Tryz.prog.info? 68).map (·.bytes) = some 32 := by kernel_rfl
theorem agg88 : aggB Tryz.prog 88 = some true := agg_of Tryz.underlying88 rfl
theorem size88 : (Tryz.prog.info? 88).map (·.size) = some 2 := by kernel_rfl
theorem zero88 : (Tryz.prog.info? 88).bind (·.zero) = Option.some (Go.Value.agg #[Go.Value.int Go.IntKind.i64 0, Go.Value.int Go.IntKind.i64 0]) := by kernel_rfl
theorem bytes88 : (Tryz.prog.info? 88).map (·.bytes) = some 16 := by kernel_rfl
theorem agg90 : aggB Tryz.prog 90 = some true := agg_of Tryz.underlying90 rfl
theorem size90 : (Tryz.prog.info? 90).map (·.size) = some 4 := by kernel_rfl
theorem zero90 : (Tryz.prog.info? 90).bind (·.zero) = Option.some (Go.Value.agg #[Go.Value.int Go.IntKind.i64 0, Go.Value.int Go.IntKind.i64 0, Go.Value.int Go.IntKind.i64 0, Go.Value.int Go.IntKind.i64 0]) := by kernel_rfl
theorem bytes90 : (Tryz.prog.info? 90).map (·.bytes) = some 32 := by kernel_rfl
theorem agg94 : aggB Tryz.prog 94 = some false := agg_of Tryz.underlying94 rfl
theorem size94 : (Tryz.prog.info? 94).map (·.size) = some 1 := by kernel_rfl
theorem zero94 : (Tryz.prog.info? 94).bind (·.zero) = Option.some (Go.Value.int Go.IntKind.u64 0) := by kernel_rfl
theorem bytes94 : (Tryz.prog.info? 94).map (·.bytes) = some 8 := by kernel_rfl
theorem agg96 : aggB Tryz.prog 96 = some true := agg_of Tryz.underlying96 rfl
theorem size96 : (Tryz.prog.info? 96).map (·.size) = some 3 := by kernel_rfl
theorem zero96 : (Tryz.prog.info? 96).bind (·.zero) = Option.some (Go.Value.agg #[Go.Value.slice Option.none 0 0, Go.Value.int Go.IntKind.i64 0, Go.Value.int Go.IntKind.u64 0]) := by kernel_rfl
theorem bytes96 : (Tryz.prog.info? 96).map (·.bytes) = some 40 := by kernel_rfl
theorem agg106 : aggB Tryz.prog 106 = some false := agg_of Tryz.underlying106 rfl
theorem size106 : (Tryz.prog.info? 106).map (·.size) = some 1 := by kernel_rfl
theorem zero106 : (Tryz.prog.info? 106).bind (·.zero) = Option.some (Go.Value.pointer Option.none) := by kernel_rfl
theorem bytes106 : (Tryz.prog.info? 106).map (·.bytes) = some 8 := by kernel_rfl
theorem agg109 : aggB Tryz.prog 109 = some false := agg_of Tryz.underlying109 rfl
theorem size109 : (Tryz.prog.info? 109).map (·.size) = some 1 := by kernel_rfl
theorem zero109 : (Tryz.prog.info? 109).bind (·.zero) = Option.some (Go.Value.int Go.IntKind.u8 0) := by kernel_rfl
theorem bytes109 : (Tryz.prog.info? 109).map (·.bytes) = some 1 := by kernel_rfl
theorem agg112 : aggB Tryz.prog 112 = some false := agg_of Tryz.underlying112 rfl
theorem size112 : (Tryz.prog.info? 112).map (·.size) = some 1 := by kernel_rfl
theorem zero112 : (Tryz.prog.info? 112).bind (·.zero) = Option.some (Go.Value.pointer Option.none) := by kernel_rfl
theorem bytes112 : (Tryz.prog.info? 112).map (·.bytes) = some 8 := by kernel_rfl
theorem agg115 : aggB Tryz.prog 115 = some false := agg_of Tryz.underlying115 rfl
theorem size115 : (Tryz.prog.info? 115).map (·.size) = some 1 := by kernel_rfl
theorem zero115 : (Tryz.prog.info? 115).bind (·.zero) = Option.some (Go.Value.pointer Option.none) := by kernel_rfl
theorem bytes115 : (Tryz.prog.info? 115).map (·.bytes) = some 8 := by kernel_rfl
theorem agg116 : aggB Tryz.prog 116 = some false := agg_of Tryz.underlying116 rfl
theorem size116 : (Tryz.prog.info? 116).map (·.size) = some 1 := by kernel_rfl
theorem zero116 : (Tryz.prog.info? 116).bind (·.zero) = Option.some Go.Value.nilFunc := by kernel_rfl
theorem bytes116 : (Tryz.prog.info? 116).map (·.bytes) = some 8 := by kernel_rfl
theorem agg118 : aggB Tryz.prog 118 = some true := agg_of Tryz.underlying118 rfl
theorem size118 : (Tryz.prog.info? 118).map (·.size) = some 4 := by kernel_rfl
theorem zero118 : (Tryz.prog.info? 118).bind (·.zero) = Option.some (Go.Value.agg #[Go.Value.pointer Option.none, Go.Value.nilFunc, Go.Value.nilFunc, Go.Value.nilFunc]) := by kernel_rfl
theorem bytes118 : (Tryz.prog.info? 118).map (·.bytes) = some 32 := by kernel_rfl
theorem agg119 : aggB Tryz.prog 119 = some false := agg_of Tryz.underlying119 rfl
theorem size119 : (Tryz.prog.info? 119).map (·.size) = some 1 := by kernel_rfl
theorem zero119 : (Tryz.prog.info? 119).bind (·.zero) = Option.some (Go.Value.int Go.IntKind.u8 0) := by kernel_rfl
theorem bytes119 : (Tryz.prog.info? 119).map (·.bytes) = some 1 := by kernel_rfl
theorem agg123 : aggB Tryz.prog 123 = some true := agg_of Tryz.underlying123 rfl
theorem size123 : (Tryz.prog.info? 123).map (·.size) = some 14 := by kernel_rfl
theorem zero123 : (Tryz.prog.info? 123).bind (·.zero) = Option.some (Go.Value.agg #[Go.Value.slice Option.none 0 0, Go.Value.slice Option.none 0 0, Go.Value.slice Option.none 0 0, Go.Value.slice Option.none 0 0, Go.Value.slice Option.none 0 0, Go.Value.slice Option.none 0 0, Go.Value.slice Option.none 0 0, Go.Value.slice Option.none 0 0, Go.Value.slice Option.none 0 0, Go.Value.slice Option.none 0 0, Go.Value.slice Option.none 0 0, Go.Value.slice Option.none 0 0, Go.Value.int Go.IntKind.i64 0, Go.Value.slice Option.none 0 0]) := by kernel_rfl
theorem bytes123 : (Tryz.prog.info? 123).map (·.bytes) = some 320 := by kernel_rfl
theorem agg126 : aggB Tryz.prog 126 = some true := agg_of Tryz.underlying126 rfl
theorem size126 : (Tryz.prog.info? 126).map (·.size) = some 4 := by kernel_rfl
theorem zero126 : (Tryz.prog.info? 126).bind (·.zero) = Option.some (Go.Value.agg #[Go.Value.int Go.IntKind.i64 0, Go.Value.int Go.IntKind.i64 0, Go.Value.int Go.IntKind.i64 0, Go.Value.int Go.IntKind.i64 0]) := by kernel_rfl
theorem bytes126 : (Tryz.prog.info? 126).map (·.bytes) = some 32 := by kernel_rfl
theorem agg132 : aggB Tryz.prog 132 = some true := agg_of Tryz.underlying132 rfl
theorem size132 : (Tryz.prog.info? 132).map (·.size) = some 4 := by kernel_rfl
theorem zero132 : (Tryz.prog.info? 132).bind (·.zero) = Option.some (Go.Value.agg #[Go.Value.slice Option.none 0 0, Go.Value.slice Option.none 0 0, Go.Value.int Go.IntKind.i64 0, Go.Value.slice Option.none 0 0]) := by kernel_rfl
theorem bytes132 : (Tryz.prog.info? 132).map (·.bytes) = some 80 := by kernel_rfl
theorem agg136 : aggB Tryz.prog 136 = some false := agg_of Tryz.underlying136 rfl
theorem size136 : (Tryz.prog.info? 136).map (·.size) = some 1 := by kernel_rfl
theorem zero136 : (Tryz.prog.info? 136).bind (·.zero) = Option.some (Go.Value.int Go.IntKind.u8 0) := by kernel_rfl
theorem bytes136 : (Tryz.prog.info? 136).map (·.bytes) = some 1 := by kernel_rfl
theorem agg141 : aggB Tryz.prog 141 = some false := agg_of Tryz.underlying141 rfl
theorem size141 : (Tryz.prog.info? 141).map (·.size) = some 1 := by kernel_rfl
theorem zero141 : (Tryz.prog.info? 141).bind (·.zero) = Option.some Go.Value.nilFunc := by kernel_rfl
theorem bytes141 : (Tryz.prog.info? 141).map (·.bytes) = some 8 := by kernel_rfl
theorem agg142 : aggB Tryz.prog 142 = some true := agg_of Tryz.underlying142 rfl
theorem size142 : (Tryz.prog.info? 142).map (·.size) = some 3 := by kernel_rfl
theorem zero142 : (Tryz.prog.info? 142).bind (·.zero) = Option.some (Go.Value.agg #[Go.Value.int Go.IntKind.i64 0, Go.Value.int Go.IntKind.i64 0, Go.Value.int Go.IntKind.i64 0]) := by kernel_rfl
theorem bytes142 : (Tryz.prog.info? 142).map (·.bytes) = some 24 := by kernel_rfl
theorem agg143 : aggB Tryz.prog 143 = some true := agg_of Tryz.underlying143 rfl
theorem size143 : (Tryz.prog.info? 143).map (·.size) = some 3 := by kernel_rfl
theorem zero143 : (Tryz.prog.info? 143).bind (·.zero) = Option.some (Go.Value.agg #[Go.Value.int Go.IntKind.i64 0, Go.Value.int Go.IntKind.i64 0, Go.Value.int Go.IntKind.i64 0]) := by kernel_rfl
theorem bytes143 : (Tryz.prog.info? 143).map (·.bytes) = some 24 := by kernel_rfl
theorem agg145 : aggB Tryz.prog 145 = some true := agg_of Tryz.underlying145 rfl
theorem size145 : (Tryz.prog.info? 145).map (·.size) = some 7 := by kernel_rfl
theorem zero145 : (Tryz.prog.info? 145).bind (·.zero) = Option.some (Go.Value.agg #[Go.Value.int Go.IntKind.u8 0, Go.Value.int Go.IntKind.i64 0, Go.Value.int Go.IntKind.i64 0, Go.Value.int Go.IntKind.i64 0, Go.Value.int Go.IntKind.i64 0, Go.Value.int Go.IntKind.i64 0, Go.Value.bool Bool.false]) := by kernel_rfl
theorem bytes145 : (Tryz.prog.info? 145).map (·.bytes) = some 56 := by kernel_rfl
theorem agg147 : aggB Tryz.prog 147 = some true := agg_of Tryz.underlying147 rfl
theorem size147 : (Tryz.prog.info? 147).map (·.size) = some 9 := by kernel_rfl
theorem zero147 : (Tryz.prog.info? 147).bind (·.zero) = Option.some (Go.Value.agg #[Go.Value.nilFunc, Go.Value.int Go.IntKind.u8 0, Go.Value.int Go.IntKind.i64 0, Go.Value.int Go.IntKind.i64 0, Go.Value.int Go.IntKind.i64 0, Go.Value.int Go.IntKind.i64 0, Go.Value.int Go.IntKind.i64 0, Go.Value.bool Bool.false, Go.Value.bool Bool.false]) := by kernel_rfl
theorem bytes147 : (Tryz.prog.info? 147).map (·.bytes) = some 72 := by kernel_rfl
theorem agg149 : aggB Tryz.prog 149 = some false := agg_of Tryz.underlying149 rfl
theorem size149 : (Tryz.prog.info? 149).map (·.size) = some 1 := by kernel_rfl
theorem zero149 : (Tryz.prog.info? 149).bind (·.zero) = Option.some Go.Value.nilFunc := by kernel_rfl
theorem bytes149 : (Tryz.prog.info? 149).map (·.bytes) = some 8 := by kernel_rfl
theorem agg151 : aggB Tryz.prog 151 = some false := agg_of Tryz.underlying151 rfl
theorem size151 : (Tryz.prog.info? 151).map (·.size) = some 1 := by kernel_rfl
theorem zero151 : (Tryz.prog.info? 151).bind (·.zero) = Option.some (Go.Value.slice Option.none 0 0) := by kernel_rfl
theorem bytes151 : (Tryz.prog.info? 151).map (·.bytes) = some 24 := by kernel_rfl
theorem agg153 : aggB Tryz.prog 153 = some true := agg_of Tryz.underlying153 rfl
theorem size153 : (Tryz.prog.info? 153).map (·.size) = some 1 := by kernel_rfl
theorem zero153 : (Tryz.prog.info? 153).bind (·.zero) = Option.some (Go.Value.agg #[Go.Value.int Go.IntKind.i64 0]) := by kernel_rfl
theorem bytes153 : (Tryz.prog.info? 153).map (·.bytes) = some 8 := by kernel_rfl
theorem agg155 : aggB Tryz.prog 155 = some true := agg_of Tryz.underlying155 rfl
theorem size155 : (Tryz.prog.info? 155).map (·.size) = some 1 := by kernel_rfl
theorem zero155 : (Tryz.prog.info? 155).bind (·.zero) = Option.some (Go.Value.agg #[Go.Value.int Go.IntKind.i64 0]) := by kernel_rfl
theorem bytes155 : (Tryz.prog.info? 155).map (·.bytes) = some 8 := by kernel_rfl
theorem agg157 : aggB Tryz.prog 157 = some true := agg_of Tryz.underlying157 rfl
theorem size157 : (Tryz.prog.info? 157).map (·.size) = some 0 := by kernel_rfl
theorem zero157 : (Tryz.prog.info? 157).bind (·.zero) = Option.some (Go.Value.agg #[]) := by kernel_rfl
theorem bytes157 : (Tryz.prog.info? 157).map (·.bytes) = some 0 := by kernel_rfl
theorem agg159 : aggB Tryz.prog 159 = some false := agg_of Tryz.underlying159 rfl
theorem size159 : (Tryz.prog.info? 159).map (·.size) = some 1 := by kernel_rfl
theorem zero159 : (Tryz.prog.info? 159).bind (·.zero) = Option.some Go.Value.nilIface := by kernel_rfl
theorem bytes159 : (Tryz.prog.info? 159).map (·.bytes) = some 16 := by kernel_rfl
theorem agg161 : aggB Tryz.prog 161 = some false := agg_of Tryz.underlying161 rfl
theorem size161 : (Tryz.prog.info? 161).map (·.size) = some 1 := by kernel_rfl
theorem zero161 : (Tryz.prog.info? 161).bind (·.zero) = Option.some Go.Value.nilIface := by kernel_rfl
theorem bytes161 : (Tryz.prog.info? 161).map (·.bytes) = some 16 := by kernel_rfl
theorem agg168 : aggB Tryz.prog 168 = some true := agg_of Tryz.underlying168 rfl
theorem size168 : (Tryz.prog.info? 168).map (·.size) = some 0 := by kernel_rfl
theorem zero168 : (Tryz.prog.info? 168).bind (·.zero) = Option.some (Go.Value.agg #[]) := by kernel_rfl
theorem bytes168 : (Tryz.prog.info? 168).map (·.bytes) = some 0 := by kernel_rfl
theorem agg173 : aggB Tryz.prog 173 = some false := agg_of Tryz.underlying173 rfl
theorem size173 : (Tryz.prog.info? 173).map (·.size) = some 1 := by kernel_rfl
theorem zero173 : (Tryz.prog.info? 173).bind (·.zero) = Option.some (Go.Value.pointer Option.none) := by kernel_rfl
theorem bytes173 : (Tryz.prog.info? 173).map (·.bytes) = some 8 := by kernel_rfl
theorem agg176 : aggB Tryz.prog 176 = some false := agg_of Tryz.underlying176 rfl
theorem size176 : (Tryz.prog.info? 176).map (·.size) = some 1 := by kernel_rfl
theorem zero176 : (Tryz.prog.info? 176).bind (·.zero) = Option.some (Go.Value.pointer Option.none) := by kernel_rfl
theorem bytes176 : (Tryz.prog.info? 176).map (·.bytes) = some 8 := by kernel_rfl
theorem agg180 : aggB Tryz.prog 180 = some false := agg_of Tryz.underlying180 rfl
theorem size180 : (Tryz.prog.info? 180).map (·.size) = some 1 := by kernel_rfl
theorem zero180 : (Tryz.prog.info? 180).bind (·.zero) = Option.some (Go.Value.int Go.IntKind.u64 0) := by kernel_rfl
theorem bytes180 : (Tryz.prog.info? 180).map (·.bytes) = some 8 := by kernel_rfl
theorem agg181 : aggB Tryz.prog 181 = some false := agg_of Tryz.underlying181 rfl
theorem size181 : (Tryz.prog.info? 181).map (·.size) = some 1 := by kernel_rfl
theorem zero181 : (Tryz.prog.info? 181).bind (·.zero) = Option.some (Go.Value.map Option.none) := by kernel_rfl
theorem bytes181 : (Tryz.prog.info? 181).map (·.bytes) = some 8 := by kernel_rfl
theorem agg183 : aggB Tryz.prog 183 = some true := agg_of Tryz.underlying183 rfl
theorem size183 : (Tryz.prog.info? 183).map (·.size) = some 6 := by kernel_rfl
theorem zero183 : (Tryz.prog.info? 183).bind (·.zero) = Option.some (Go.Value.agg #[Go.Value.slice Option.none 0 0, Go.Value.slice Option.none 0 0, Go.Value.slice Option.none 0 0, Go.Value.slice Option.none 0 0, Go.Value.slice Option.none 0 0, Go.Value.map Option.none]) := by kernel_rfl
theorem bytes183 : (Tryz.prog.info? 183).map (·.bytes) = some 128 := by kernel_rfl
theorem agg185 : aggB Tryz.prog 185 = some true := agg_of Tryz.underlying185 rfl
theorem size185 : (Tryz.prog.info? 185).map (·.size) = some 5 := by kernel_rfl
theorem zero185 : (Tryz.prog.info? 185).bind (·.zero) = Option.some (Go.Value.agg #[Go.Value.int Go.IntKind.i64 0, Go.Value.int Go.IntKind.i64 0, Go.Value.int Go.IntKind.i64 0, Go.Value.int Go.IntKind.i64 0, Go.Value.int Go.IntKind.i64 0]) := by kernel_rfl
theorem bytes185 : (Tryz.prog.info? 185).map (·.bytes) = some 40 := by kernel_rfl
theorem agg186 : aggB Tryz.prog 186 = some true := agg_of Tryz.underlying186 rfl
theorem size186 : (Tryz.prog.info? 186).map (·.size) = some 6 := by kernel_rfl
theorem zero186 : (Tryz.prog.info? 186).bind (·.zero) = Option.some (Go.Value.agg #[Go.Value.int Go.IntKind.i64 0, Go.Value.int Go.IntKind.i64 0, Go.Value.int Go.IntKind.i64 0, Go.Value.int Go.IntKind.i64 0, Go.Value.int Go.IntKind.i64 0, Go.Value.int Go.IntKind.i64 0]) := by kernel_rfl
theorem bytes186 : (Tryz.prog.info? 186).map (·.bytes) = some 48 := by kernel_rfl
theorem agg188 : aggB Tryz.prog 188 = some true := agg_of Tryz.underlying188 rfl
theorem size188 : (Tryz.prog.info? 188).map (·.size) = some 12 := by kernel_rfl
theorem zero188 : (Tryz.prog.info? 188).bind (·.zero) = Option.some (Go.Value.agg #[Go.Value.int Go.IntKind.i64 0, Go.Value.int Go.IntKind.i64 0, Go.Value.int Go.IntKind.i64 0, Go.Value.int Go.IntKind.i64 0, Go.Value.int Go.IntKind.i64 0, Go.Value.int Go.IntKind.i64 0, Go.Value.int Go.IntKind.i64 0, Go.Value.int Go.IntKind.i64 0, Go.Value.int Go.IntKind.i64 0, Go.Value.int Go.IntKind.i64 0, Go.Value.int Go.IntKind.i64 0, Go.Value.int Go.IntKind.i64 0]) := by kernel_rfl
theorem bytes188 : (Tryz.prog.info? 188).map (·.bytes) = some 96 := by kernel_rfl
theorem agg195 : aggB Tryz.prog 195 = some true := agg_of Tryz.underlying195 rfl
theorem size195 : (Tryz.prog.info? 195).map (·.size) = some 17 := by kernel_rfl
theorem zero195 : (Tryz.prog.info? 195).bind (·.zero) = Option.some (Go.Value.agg #[Go.Value.slice Option.none 0 0, Go.Value.slice Option.none 0 0, Go.Value.slice Option.none 0 0, Go.Value.slice Option.none 0 0, Go.Value.slice Option.none 0 0, Go.Value.slice Option.none 0 0, Go.Value.slice Option.none 0 0, Go.Value.slice Option.none 0 0, Go.Value.slice Option.none 0 0, Go.Value.slice Option.none 0 0, Go.Value.slice Option.none 0 0, Go.Value.slice Option.none 0 0, Go.Value.int Go.IntKind.i64 0, Go.Value.slice Option.none 0 0, Go.Value.slice Option.none 0 0, Go.Value.slice Option.none 0 0, Go.Value.slice Option.none 0 0]) := by kernel_rfl
theorem bytes195 : (Tryz.prog.info? 195).map (·.bytes) = some 392 := by kernel_rfl
theorem agg202 : aggB Tryz.prog 202 = some true := agg_of Tryz.underlying202 rfl
theorem size202 : (Tryz.prog.info? 202).map (·.size) = some 2 := by kernel_rfl
theorem zero202 : (Tryz.prog.info? 202).bind (·.zero) = Option.some (Go.Value.agg #[Go.Value.int Go.IntKind.i64 0, Go.Value.int Go.IntKind.i64 0]) := by kernel_rfl
theorem bytes202 : (Tryz.prog.info? 202).map (·.bytes) = some 16 := by kernel_rfl
theorem agg209 : aggB Tryz.prog 209 = some true := agg_of Tryz.underlying209 rfl
theorem size209 : (Tryz.prog.info? 209).map (·.size) = some 1 := by kernel_rfl
theorem zero209 : (Tryz.prog.info? 209).bind (·.zero) = Option.some (Go.Value.agg #[Go.Value.int Go.IntKind.i64 0]) := by kernel_rfl
theorem bytes209 : (Tryz.prog.info? 209).map (·.bytes) = some 8 := by kernel_rfl
theorem agg214 : aggB Tryz.prog 214 = some true := agg_of Tryz.underlying214 rfl
theorem size214 : (Tryz.prog.info? 214).map (·.size) = some 1 := by kernel_rfl
theorem zero214 : (Tryz.prog.info? 214).bind (·.zero) = Option.some (Go.Value.agg #[Go.Value.int Go.IntKind.i64 0]) := by kernel_rfl
theorem bytes214 : (Tryz.prog.info? 214).map (·.bytes) = some 8 := by kernel_rfl
theorem agg216 : aggB Tryz.prog 216 = some false := agg_of Tryz.underlying216 rfl
theorem size216 : (Tryz.prog.info? 216).map (·.size) = some 1 := by kernel_rfl
theorem zero216 : (Tryz.prog.info? 216).bind (·.zero) = Option.some (Go.Value.pointer Option.none) := by kernel_rfl
theorem bytes216 : (Tryz.prog.info? 216).map (·.bytes) = some 8 := by kernel_rfl
theorem agg218 : aggB Tryz.prog 218 = some false := agg_of Tryz.underlying218 rfl
theorem size218 : (Tryz.prog.info? 218).map (·.size) = some 1 := by kernel_rfl
theorem zero218 : (Tryz.prog.info? 218).bind (·.zero) = Option.some (Go.Value.slice Option.none 0 0) := by kernel_rfl
theorem bytes218 : (Tryz.prog.info? 218).map (·.bytes) = some 24 := by kernel_rfl
theorem agg224 : aggB Tryz.prog 224 = some true := agg_of Tryz.underlying224 rfl
theorem size224 : (Tryz.prog.info? 224).map (·.size) = some 0 := by kernel_rfl
theorem zero224 : (Tryz.prog.info? 224).bind (·.zero) = Option.some (Go.Value.agg #[]) := by kernel_rfl
theorem bytes224 : (Tryz.prog.info? 224).map (·.bytes) = some 0 := by kernel_rfl
theorem agg225 : aggB Tryz.prog 225 = some false := agg_of Tryz.underlying225 rfl
theorem size225 : (Tryz.prog.info? 225).map (·.size) = some 1 := by kernel_rfl
theorem zero225 : (Tryz.prog.info? 225).bind (·.zero) = Option.some (Go.Value.int Go.IntKind.u32 0) := by kernel_rfl
theorem bytes225 : (Tryz.prog.info? 225).map (·.bytes) = some 4 := by kernel_rfl
theorem agg227 : aggB Tryz.prog 227 = some true := agg_of Tryz.underlying227 rfl
theorem size227 : (Tryz.prog.info? 227).map (·.size) = some 2 := by kernel_rfl
theorem zero227 : (Tryz.prog.info? 227).bind (·.zero) = Option.some (Go.Value.agg #[Go.Value.int Go.IntKind.i32 0, Go.Value.int Go.IntKind.u32 0]) := by kernel_rfl
theorem bytes227 : (Tryz.prog.info? 227).map (·.bytes) = some 8 := by kernel_rfl
theorem agg229 : aggB Tryz.prog 229 = some true := agg_of Tryz.underlying229 rfl
theorem size229 : (Tryz.prog.info? 229).map (·.size) = some 2 := by kernel_rfl
theorem zero229 : (Tryz.prog.info? 229).bind (·.zero) = Option.some (Go.Value.agg #[Go.Value.int Go.IntKind.i32 0, Go.Value.int Go.IntKind.u32 0]) := by kernel_rfl
theorem bytes229 : (Tryz.prog.info? 229).map (·.bytes) = some 8 := by kernel_rfl
theorem agg230 : aggB Tryz.prog 230 = some false := agg_of Tryz.underlying230 rfl
theorem size230 : (Tryz.prog.info? 230).map (·.size) = some 1 := by kernel_rfl
theorem zero230 : (Tryz.prog.info? 230).bind (·.zero) = Option.some (Go.Value.map Option.none) := by kernel_rfl
theorem bytes230 : (Tryz.prog.info? 230).map (·.bytes) = some 8 := by kernel_rfl
theorem agg232 : aggB Tryz.prog 232 = some true := agg_of Tryz.underlying232 rfl
theorem size232 : (Tryz.prog.info? 232).map (·.size) = some 8 := by kernel_rfl
theorem zero232 : (Tryz.prog.info? 232).bind (·.zero) = Option.some (Go.Value.agg #[Go.Value.slice Option.none 0 0, Go.Value.slice Option.none 0 0, Go.Value.slice Option.none 0 0, Go.Value.slice Option.none 0 0, Go.Value.slice Option.none 0 0, Go.Value.int Go.IntKind.i32 0, Go.Value.int Go.IntKind.u32 0, Go.Value.map Option.none]) := by kernel_rfl
theorem bytes232 : (Tryz.prog.info? 232).map (·.bytes) = some 136 := by kernel_rfl
theorem agg233 : aggB Tryz.prog 233 = some false := agg_of Tryz.underlying233 rfl
theorem size233 : (Tryz.prog.info? 233).map (·.size) = some 1 := by kernel_rfl
theorem zero233 : (Tryz.prog.info? 233).bind (·.zero) = Option.some Go.Value.nilFunc := by kernel_rfl
theorem bytes233 : (Tryz.prog.info? 233).map (·.bytes) = some 8 := by kernel_rfl
theorem agg234 : aggB Tryz.prog 234 = some false := agg_of Tryz.underlying234 rfl
theorem size234 : (Tryz.prog.info? 234).map (·.size) = some 1 := by kernel_rfl
theorem zero234 : (Tryz.prog.info? 234).bind (·.zero) = Option.some (Go.Value.map Option.none) := by kernel_rfl
theorem bytes234 : (Tryz.prog.info? 234).map (·.bytes) = some 8 := by kernel_rfl
theorem agg236 : aggB Tryz.prog 236 = some true := agg_of Tryz.underlying236 rfl
theorem size236 : (Tryz.prog.info? 236).map (·.size) = some 4 := by kernel_rfl
theorem zero236 : (Tryz.prog.info? 236).bind (·.zero) = Option.some (Go.Value.agg #[Go.Value.int Go.IntKind.i64 0, Go.Value.int Go.IntKind.i64 0, Go.Value.int Go.IntKind.i64 0, Go.Value.int Go.IntKind.i64 0]) := by kernel_rfl
theorem bytes236 : (Tryz.prog.info? 236).map (·.bytes) = some 32 := by kernel_rfl
theorem agg237 : aggB Tryz.prog 237 = some true := agg_of Tryz.underlying237 rfl
theorem size237 : (Tryz.prog.info? 237).map (·.size) = some 4 := by kernel_rfl
theorem zero237 : (Tryz.prog.info? 237).bind (·.zero) = Option.some (Go.Value.agg #[Go.Value.int Go.IntKind.i64 0, Go.Value.int Go.IntKind.i64 0, Go.Value.int Go.IntKind.i64 0, Go.Value.int Go.IntKind.i64 0]) := by kernel_rfl
theorem bytes237 : (Tryz.prog.info? 237).map (·.bytes) = some 32 := by kernel_rfl
theorem agg239 : aggB Tryz.prog 239 = some true := agg_of Tryz.underlying239 rfl
theorem size239 : (Tryz.prog.info? 239).map (·.size) = some 9 := by kernel_rfl
theorem zero239 : (Tryz.prog.info? 239).bind (·.zero) = Option.some (Go.Value.agg #[Go.Value.int Go.IntKind.i64 0, Go.Value.int Go.IntKind.i64 0, Go.Value.int Go.IntKind.i64 0, Go.Value.int Go.IntKind.i64 0, Go.Value.int Go.IntKind.i64 0, Go.Value.int Go.IntKind.i64 0, Go.Value.int Go.IntKind.i64 0, Go.Value.int Go.IntKind.i64 0, Go.Value.int Go.IntKind.i64 0]) := by kernel_rfl
theorem bytes239 : (Tryz.prog.info? 239).map (·.bytes) = some 72 := by kernel_rfl
theorem agg246 : aggB Tryz.prog 246 = some false := agg_of Tryz.underlying246 rfl
theorem size246 : (Tryz.prog.info? 246).map (·.size) = some 1 := by kernel_rfl
theorem zero246 : (Tryz.prog.info? 246).bind (·.zero) = Option.some (Go.Value.slice Option.none 0 0) := by kernel_rfl
theorem bytes246 : (Tryz.prog.info? 246).map (·.bytes) = some 24 := by kernel_rfl
theorem agg252 : aggB Tryz.prog 252 = some true := agg_of Tryz.underlying252 rfl
theorem size252 : (Tryz.prog.info? 252).map (·.size) = some 2 := by kernel_rfl
theorem zero252 : (Tryz.prog.info? 252).bind (·.zero) = Option.some (Go.Value.agg #[Go.Value.int Go.IntKind.i64 0, Go.Value.slice Option.none 0 0]) := by kernel_rfl
theorem bytes252 : (Tryz.prog.info? 252).map (·.bytes) = some 32 := by kernel_rfl
theorem agg260 : aggB Tryz.prog 260 = some false := agg_of Tryz.underlying260 rfl
theorem size260 : (Tryz.prog.info? 260).map (·.size) = some 1 := by kernel_rfl
theorem zero260 : (Tryz.prog.info? 260).bind (·.zero) = Option.some Go.Value.nilFunc := by kernel_rfl
theorem bytes260 : (Tryz.prog.info? 260).map (·.bytes) = some 8 := by kernel_rfl
theorem agg263 : aggB Tryz.prog 263 = some true := agg_of Tryz.underlying263 rfl
theorem size263 : (Tryz.prog.info? 263).map (·.size) = some 10 := by kernel_rfl
theorem zero263 : (Tryz.prog.info? 263).bind (·.zero) = Option.some (Go.Value.agg #[Go.Value.int Go.IntKind.i64 0, Go.Value.int Go.IntKind.i64 0, Go.Value.int Go.IntKind.i64 0, Go.Value.int Go.IntKind.i64 0, Go.Value.int Go.IntKind.i64 0, Go.Value.int Go.IntKind.i64 0, Go.Value.int Go.IntKind.i64 0, Go.Value.int Go.IntKind.i64 0, Go.Value.int Go.IntKind.i64 0, Go.Value.int Go.IntKind.i64 0]) := by kernel_rfl
theorem bytes263 : (Tryz.prog.info? 263).map (·.bytes) = some 80 := by kernel_rfl
theorem agg266 : aggB Tryz.prog 266 = some false := agg_of Tryz.underlying266 rfl
theorem size266 : (Tryz.prog.info? 266).map (·.size) = some 1 := by kernel_rfl
theorem zero266 : (Tryz.prog.info? 266).bind (·.zero) = Option.some (Go.Value.pointer Option.none) := by kernel_rfl
theorem bytes266 : (Tryz.prog.info? 266).map (·.bytes) = some 8 := by kernel_rfl
theorem agg267 : aggB Tryz.prog 267 = some false := agg_of Tryz.underlying267 rfl
theorem size267 : (Tryz.prog.info? 267).map (·.size) = some 1 := by kernel_rfl
theorem zero267 : (Tryz.prog.info? 267).bind (·.zero) = Option.some (Go.Value.int Go.IntKind.u64 0) := by kernel_rfl
theorem bytes267 : (Tryz.prog.info? 267).map (·.bytes) = some 8 := by kernel_rfl
theorem agg269 : aggB Tryz.prog 269 = some true := agg_of Tryz.underlying269 rfl
theorem size269 : (Tryz.prog.info? 269).map (·.size) = some 3 := by kernel_rfl
theorem zero269 : (Tryz.prog.info? 269).bind (·.zero) = Option.some (Go.Value.agg #[Go.Value.pointer Option.none, Go.Value.pointer Option.none, Go.Value.int Go.IntKind.u64 0]) := by kernel_rfl
theorem bytes269 : (Tryz.prog.info? 269).map (·.bytes) = some 24 := by kernel_rfl
theorem agg272 : aggB Tryz.prog 272 = some false := agg_of Tryz.underlying272 rfl
theorem size272 : (Tryz.prog.info? 272).map (·.size) = some 1 := by kernel_rfl
theorem zero272 : (Tryz.prog.info? 272).bind (·.zero) = Option.some Go.Value.nilIface := by kernel_rfl
theorem bytes272 : (Tryz.prog.info? 272).map (·.bytes) = some 16 := by kernel_rfl
theorem agg274 : aggB Tryz.prog 274 = some false := agg_of Tryz.underlying274 rfl
theorem size274 : (Tryz.prog.info? 274).map (·.size) = some 1 := by kernel_rfl
theorem zero274 : (Tryz.prog.info? 274).bind (·.zero) = Option.some (Go.Value.int Go.IntKind.u8 0) := by kernel_rfl
theorem bytes274 : (Tryz.prog.info? 274).map (·.bytes) = some 1 := by kernel_rfl
theorem agg278 : aggB Tryz.prog 278 = some false := agg_of Tryz.underlying278 rfl
theorem size278 : (Tryz.prog.info? 278).map (·.size) = some 1 := by kernel_rfl
theorem zero278 : (Tryz.prog.info? 278).bind (·.zero) = Option.some (Go.Value.chan Option.none) := by kernel_rfl
theorem bytes278 : (Tryz.prog.info? 278).map (·.bytes) = some 8 := by kernel_rfl
theorem agg279 : aggB Tryz.prog 279 = some true := agg_of Tryz.underlying279 rfl
theorem size279 : (Tryz.prog.info? 279).map (·.size) = some 0 := by kernel_rfl
theorem zero279 : (Tryz.prog.info? 279).bind (·.zero) = Option.some (Go.Value.agg #[]) := by kernel_rfl
theorem bytes279 : (Tryz.prog.info? 279).map (·.bytes) = some 0 := by kernel_rfl
theorem agg280 : aggB Tryz.prog 280 = some true := agg_of Tryz.underlying280 rfl
theorem size280 : (Tryz.prog.info? 280).map (·.size) = some 0 := by kernel_rfl
theorem zero280 : (Tryz.prog.info? 280).bind (·.zero) = Option.some (Go.Value.agg #[]) := by kernel_rfl
theorem bytes280 : (Tryz.prog.info? 280).map (·.bytes) = some 0 := by kernel_rfl
theorem agg282 : aggB Tryz.prog 282 = some true := agg_of Tryz.underlying282 rfl
theorem size282 : (Tryz.prog.info? 282).map (·.size) = some 1 := by kernel_rfl
theorem zero282 : (Tryz.prog.info? 282).bind (·.zero) = Option.some (Go.Value.agg #[Go.Value.int Go.IntKind.u64 0]) := by kernel_rfl
theorem bytes282 : (Tryz.prog.info? 282).map (·.bytes) = some 8 := by kernel_rfl
theorem agg284 : aggB Tryz.prog 284 = some true := agg_of Tryz.underlying284 rfl
theorem size284 : (Tryz.prog.info? 284).map (·.size) = some 2 := by kernel_rfl
theorem zero284 : (Tryz.prog.info? 284).bind (·.zero) = Option.some (Go.Value.agg #[Go.Value.int Go.IntKind.u64 0, Go.Value.int Go.IntKind.u32 0]) := by kernel_rfl
theorem bytes284 : (Tryz.prog.info? 284).map (·.bytes) = some 16 := by kernel_rfl
theorem agg287 : aggB Tryz.prog 287 = some false := agg_of Tryz.underlying287 rfl
theorem size287 : (Tryz.prog.info? 287).map (·.size) = some 1 := by kernel_rfl
theorem zero287 : (Tryz.prog.info? 287).bind (·.zero) = Option.some (Go.Value.pointer Option.none) := by kernel_rfl
theorem bytes287 : (Tryz.prog.info? 287).map (·.bytes) = some 8 := by kernel_rfl
theorem agg289 : aggB Tryz.prog 289 = some true := agg_of Tryz.underlying289 rfl
theorem size289 : (Tryz.prog.info? 289).map (·.size) = some 7 := by kernel_rfl
theorem zero289 : (Tryz.prog.info? 289).bind (·.zero) = Option.some (Go.Value.agg #[Go.Value.string { data := #[] }, Go.Value.string { data := #[] }, Go.Value.string { data := #[] }, Go.Value.string { data := #[] }, Go.Value.string { data := #[] }, Go.Value.string { data := #[] }, Go.Value.string { data := #[] }]) := by kernel_rfl
theorem bytes289 : (Tryz.prog.info? 289).map (·.bytes) = some 112 := by kernel_rfl
theorem agg293 : aggB Tryz.prog 293 = some true := agg_of Tryz.underlying293 rfl
theorem size293 : (Tryz.prog.info? 293).map (·.size) = some 0 := by kernel_rfl
theorem zero293 : (Tryz.prog.info? 293).bind (·.zero) = Option.some (Go.Value.agg #[]) := by kernel_rfl
theorem bytes293 : (Tryz.prog.info? 293).map (·.bytes) = some 0 := by kernel_rfl
theorem agg295 : aggB Tryz.prog 295 = some false := agg_of Tryz.underlying295 rfl
theorem size295 : (Tryz.prog.info? 295).map (·.size) = some 1 := by kernel_rfl
theorem zero295 : (Tryz.prog.info? 295).bind (·.zero) = Option.some Go.Value.nilIface := by kernel_rfl
theorem bytes295 : (Tryz.prog.info? 295).map (·.bytes) = some 16 := by kernel_rfl
theorem agg296 : aggB Tryz.prog 296 = some true := agg_of Tryz.underlying296 rfl
theorem size296 : (Tryz.prog.info? 296).map (·.size) = some 0 := by kernel_rfl
theorem zero296 : (Tryz.prog.info? 296).bind (·.zero) = Option.some (Go.Value.agg #[]) := by kernel_rfl
theorem bytes296 : (Tryz.prog.info? 296).map (·.bytes) = some 0 := by kernel_rfl
theorem agg297 : aggB Tryz.prog 297 = some true := agg_of Tryz.underlying297 rfl
theorem size297 : (Tryz.prog.info? 297).map (·.size) = some 0 := by kernel_rfl
theorem zero297 : (Tryz.prog.info? 297).bind (·.zero) = Option.some (Go.Value.agg #[]) := by kernel_rfl
theorem bytes297 : (Tryz.prog.info? 297).map (·.bytes) = some 0 := by kernel_rfl
theorem agg302 : aggB Tryz.prog 302 = some false := agg_of Tryz.underlying302 rfl
theorem size302 : (Tryz.prog.info? 302).map (·.size) = some 1 := by kernel_rfl
theorem zero302 : (Tryz.prog.info? 302).bind (·.zero) = Option.some Go.Value.nilFunc := by kernel_rfl
theorem bytes302 : (Tryz.prog.info? 302).map (·.bytes) = some 8 := by kernel_rfl
theorem agg309 : aggB Tryz.prog 309 = some false := agg_of Tryz.underlying309 rfl
theorem size309 : (Tryz.prog.info? 309).map (·.size) = some 1 := by kernel_rfl
theorem zero309 : (Tryz.prog.info? 309).bind (·.zero) = Option.some Go.Value.nilFunc := by kernel_rfl
theorem bytes309 : (Tryz.prog.info? 309).map (·.bytes) = some 8 := by kernel_rfl
theorem agg310 : aggB Tryz.prog 310 = some false := agg_of Tryz.underlying310 rfl
theorem size310 : (Tryz.prog.info? 310).map (·.size) = some 1 := by kernel_rfl
theorem zero310 : (Tryz.prog.info? 310).bind (·.zero) = Option.some Go.Value.nilFunc := by kernel_rfl
theorem bytes310 : (Tryz.prog.info? 310).map (·.bytes) = some 8 := by kernel_rfl
theorem agg313 : aggB Tryz.prog 313 = some false := agg_of Tryz.underlying313 rfl
theorem size313 : (Tryz.prog.info? 313).map (·.size) = some 1 := by kernel_rfl
theorem zero313 : (Tryz.prog.info? 313).bind (·.zero) = Option.some Go.Value.nilIface := by kernel_rfl
theorem bytes313 : (Tryz.prog.info? 313).map (·.bytes) = some 16 := by kernel_rfl
theorem agg316 : aggB Tryz.prog 316 = some false := agg_of Tryz.underlying316 rfl
theorem size316 : (Tryz.prog.info? 316).map (·.size) = some 1 := by kernel_rfl
theorem zero316 : (Tryz.prog.info? 316).bind (·.zero) = Option.some (Go.Value.pointer Option.none) := by kernel_rfl
theorem bytes316 : (Tryz.prog.info? 316).map (·.bytes) = some 8 := by kernel_rfl
theorem agg318 : aggB Tryz.prog 318 = some true := agg_of Tryz.underlying318 rfl
theorem size318 : (Tryz.prog.info? 318).map (·.size) = some 1 := by kernel_rfl
theorem zero318 : (Tryz.prog.info? 318).bind (·.zero) = Option.some (Go.Value.agg #[Go.Value.pointer Option.none]) := by kernel_rfl
theorem bytes318 : (Tryz.prog.info? 318).map (·.bytes) = some 8 := by kernel_rfl
theorem agg319 : aggB Tryz.prog 319 = some false := agg_of Tryz.underlying319 rfl
theorem size319 : (Tryz.prog.info? 319).map (·.size) = some 1 := by kernel_rfl
theorem zero319 : (Tryz.prog.info? 319).bind (·.zero) = Option.some (Go.Value.pointer Option.none) := by kernel_rfl
theorem bytes319 : (Tryz.prog.info? 319).map (·.bytes) = some 8 := by kernel_rfl
theorem agg323 : aggB Tryz.prog 323 = some false := agg_of Tryz.underlying323 rfl
theorem size323 : (Tryz.prog.info? 323).map (·.size) = some 1 := by kernel_rfl
theorem zero323 : (Tryz.prog.info? 323).bind (·.zero) = Option.some Go.Value.nilIface := by kernel_rfl
theorem bytes323 : (Tryz.prog.info? 323).map (·.bytes) = some 16 := by kernel_rfl
theorem agg326 : aggB Tryz.prog 326 = some false := agg_of Tryz.underlying326 rfl
theorem size326 : (Tryz.prog.info? 326).map (·.size) = some 1 := by kernel_rfl
theorem zero326 : (Tryz.prog.info? 326).bind (·.zero) = Option.some Go.Value.nilIface := by kernel_rfl
theorem bytes326 : (Tryz.prog.info? 326).map (·.bytes) = some 16 := by kernel_rfl
theorem agg328 : aggB Tryz.prog 328 = some false := agg_of Tryz.underlying328 rfl
theorem size328 : (Tryz.prog.info? 328).map (·.size) = some 1 := by kernel_rfl
theorem zero328 : (Tryz.prog.info? 328).bind (·.zero) = Option.some Go.Value.nilIface := by kernel_rfl
theorem bytes328 : (Tryz.prog.info? 328).map (·.bytes) = some 16 := by kernel_rfl
theorem agg329 : aggB Tryz.prog 329 = some false := agg_of Tryz.underlying329 rfl
theorem size329 : (Tryz.prog.info? 329).map (·.size) = some 1 := by kernel_rfl
theorem zero329 : (Tryz.prog.info? 329).bind (·.zero) = Option.some (Go.Value.slice Option.none 0 0) := by kernel_rfl
theorem bytes329 : (Tryz.prog.info? 329).map (·.bytes) = some 24 := by kernel_rfl
theorem agg331 : aggB Tryz.prog 331 = some false := agg_of Tryz.underlying331 rfl
theorem size331 : (Tryz.prog.info? 331).map (·.size) = some 1 := by kernel_rfl
theorem zero331 : (Tryz.prog.info? 331).bind (·.zero) = Option.some (Go.Value.pointer Option.none) := by kernel_rfl
theorem bytes331 : (Tryz.prog.info? 331).map (·.bytes) = some 8 := by kernel_rfl
theorem agg333 : aggB Tryz.prog 333 = some false := agg_of Tryz.underlying333 rfl
theorem size333 : (Tryz.prog.info? 333).map (·.size) = some 1 := by kernel_rfl
theorem zero333 : (Tryz.prog.info? 333).bind (·.zero) = Option.some (Go.Value.int Go.IntKind.i64 0) := by kernel_rfl
theorem bytes333 : (Tryz.prog.info? 333).map (·.bytes) = some 8 := by kernel_rfl
theorem agg337 : aggB Tryz.prog 337 = some false := agg_of Tryz.underlying337 rfl
theorem size337 : (Tryz.prog.info? 337).map (·.size) = some 1 := by kernel_rfl
theorem zero337 : (Tryz.prog.info? 337).bind (·.zero) = Option.some (Go.Value.pointer Option.none) := by kernel_rfl
theorem bytes337 : (Tryz.prog.info? 337).map (·.bytes) = some 8 := by kernel_rfl
theorem agg346 : aggB Tryz.prog 346 = some true := agg_of Tryz.underlying346 rfl
theorem size346 : (Tryz.prog.info? 346).map (·.size) = some 1 := by kernel_rfl
theorem zero346 : (Tryz.prog.info? 346).bind (·.zero) = Option.some (Go.Value.agg #[Go.Value.int Go.IntKind.i64 0]) := by kernel_rfl
theorem bytes346 : (Tryz.prog.info? 346).map (·.bytes) = some 8 := by kernel_rfl
theorem agg348 : aggB Tryz.prog 348 = some false := agg_of Tryz.underlying348 rfl
theorem size348 : (Tryz.prog.info? 348).map (·.size) = some 1 := by kernel_rfl
theorem zero348 : (Tryz.prog.info? 348).bind (·.zero) = Option.some (Go.Value.slice Option.none 0 0) := by kernel_rfl
theorem bytes348 : (Tryz.prog.info? 348).map (·.bytes) = some 24 := by kernel_rfl
theorem agg350 : aggB Tryz.prog 350 = some false := agg_of Tryz.underlying350 rfl
theorem size350 : (Tryz.prog.info? 350).map (·.size) = some 1 := by kernel_rfl
theorem zero350 : (Tryz.prog.info? 350).bind (·.zero) = Option.some Go.Value.nilFunc := by kernel_rfl
theorem bytes350 : (Tryz.prog.info? 350).map (·.bytes) = some 8 := by kernel_rfl
theorem agg353 : aggB Tryz.prog 353 = some true := agg_of Tryz.underlying353 rfl
theorem size353 : (Tryz.prog.info? 353).map (·.size) = some 1 := by kernel_rfl
theorem zero353 : (Tryz.prog.info? 353).bind (·.zero) = Option.some (Go.Value.agg #[Go.Value.int Go.IntKind.i64 0]) := by kernel_rfl
theorem bytes353 : (Tryz.prog.info? 353).map (·.bytes) = some 8 := by kernel_rfl
theorem agg358 : aggB Tryz.prog 358 = some false := agg_of Tryz.underlying358 rfl
theorem size358 : (Tryz.prog.info? 358).map (·.size) = some 1 := by kernel_rfl
theorem zero358 : (Tryz.prog.info? 358).bind (·.zero) = Option.some Go.Value.nilFunc := by kernel_rfl
theorem bytes358 : (Tryz.prog.info? 358).map (·.bytes) = some 8 := by kernel_rfl
theorem agg360 : aggB Tryz.prog 360 = some false := agg_of Tryz.underlying360 rfl
theorem size360 : (Tryz.prog.info? 360).map (·.size) = some 1 := by kernel_rfl
theorem zero360 : (Tryz.prog.info? 360).bind (·.zero) = Option.some (Go.Value.pointer Option.none) := by kernel_rfl
theorem bytes360 : (Tryz.prog.info? 360).map (·.bytes) = some 8 := by kernel_rfl
theorem agg361 : aggB Tryz.prog 361 = some false := agg_of Tryz.underlying361 rfl
theorem size361 : (Tryz.prog.info? 361).map (·.size) = some 1 := by kernel_rfl
theorem zero361 : (Tryz.prog.info? 361).bind (·.zero) = Option.some (Go.Value.slice Option.none 0 0) := by kernel_rfl
theorem bytes361 : (Tryz.prog.info? 361).map (·.bytes) = some 24 := by kernel_rfl
theorem agg363 : aggB Tryz.prog 363 = some true := agg_of Tryz.underlying363 rfl
theorem size363 : (Tryz.prog.info? 363).map (·.size) = some 2 := by kernel_rfl
theorem zero363 : (Tryz.prog.info? 363).bind (·.zero) = Option.some (Go.Value.agg #[Go.Value.pointer Option.none, Go.Value.slice Option.none 0 0]) := by kernel_rfl
theorem bytes363 : (Tryz.prog.info? 363).map (·.bytes) = some 32 := by kernel_rfl
theorem agg375 : aggB Tryz.prog 375 = some true := agg_of Tryz.underlying375 rfl
theorem size375 : (Tryz.prog.info? 375).map (·.size) = some 2 := by kernel_rfl
theorem zero375 : (Tryz.prog.info? 375).bind (·.zero) = Option.some (Go.Value.agg #[Go.Value.int Go.IntKind.i64 0, Go.Value.int Go.IntKind.i64 0]) := by kernel_rfl
theorem bytes375 : (Tryz.prog.info? 375).map (·.bytes) = some 16 := by kernel_rfl
theorem agg377 : aggB Tryz.prog 377 = some true := agg_of Tryz.underlying377 rfl
theorem size377 : (Tryz.prog.info? 377).map (·.size) = some 1 := by kernel_rfl
theorem zero377 : (Tryz.prog.info? 377).bind (·.zero) = Option.some (Go.Value.agg #[Go.Value.int Go.IntKind.i64 0]) := by kernel_rfl
theorem bytes377 : (Tryz.prog.info? 377).map (·.bytes) = some 8 := by kernel_rfl
theorem agg379 : aggB Tryz.prog 379 = some true := agg_of Tryz.underlying379 rfl
theorem size379 : (Tryz.prog.info? 379).map (·.size) = some 2 := by kernel_rfl
theorem zero379 : (Tryz.prog.info? 379).bind (·.zero) = Option.some (Go.Value.agg #[Go.Value.int Go.IntKind.i64 0, Go.Value.int Go.IntKind.i64 0]) := by kernel_rfl
theorem bytes379 : (Tryz.prog.info? 379).map (·.bytes) = some 16 := by kernel_rfl
theorem agg381 : aggB Tryz.prog 381 = some true := agg_of Tryz.underlying381 rfl
theorem size381 : (Tryz.prog.info? 381).map (·.size) = some 1 := by kernel_rfl
theorem zero381 : (Tryz.prog.info? 381).bind (·.zero) = Option.some (Go.Value.agg #[Go.Value.int Go.IntKind.i64 0]) := by kernel_rfl
theorem bytes381 : (Tryz.prog.info? 381).map (·.bytes) = some 8 := by kernel_rfl
theorem agg383 : aggB Tryz.prog 383 = some false := agg_of Tryz.underlying383 rfl
theorem size383 : (Tryz.prog.info? 383).map (·.size) = some 1 := by kernel_rfl
theorem zero383 : (Tryz.prog.info? 383).bind (·.zero) = Option.some (Go.Value.pointer Option.none) := by kernel_rfl
theorem bytes383 : (Tryz.prog.info? 383).map (·.bytes) = some 8 := by kernel_rfl
theorem agg385 : aggB Tryz.prog 385 = some false := agg_of Tryz.underlying385 rfl
theorem size385 : (Tryz.prog.info? 385).map (·.size) = some 1 := by kernel_rfl
theorem zero385 : (Tryz.prog.info? 385).bind (·.zero) = Option.some (Go.Value.pointer Option.none) := by kernel_rfl
theorem bytes385 : (Tryz.prog.info? 385).map (·.bytes) = some 8 := by kernel_rfl
theorem agg389 : aggB Tryz.prog 389 = some false := agg_of Tryz.underlying389 rfl
theorem size389 : (Tryz.prog.info? 389).map (·.size) = some 1 := by kernel_rfl
theorem zero389 : (Tryz.prog.info? 389).bind (·.zero) = Option.some Go.Value.nilFunc := by kernel_rfl
theorem bytes389 : (Tryz.prog.info? 389).map (·.bytes) = some 8 := by kernel_rfl
theorem agg390 : aggB Tryz.prog 390 = some false := agg_of Tryz.underlying390 rfl
theorem size390 : (Tryz.prog.info? 390).map (·.size) = some 1 := by kernel_rfl
theorem zero390 : (Tryz.prog.info? 390).bind (·.zero) = Option.some (Go.Value.pointer Option.none) := by kernel_rfl
theorem bytes390 : (Tryz.prog.info? 390).map (·.bytes) = some 8 := by kernel_rfl
theorem agg392 : aggB Tryz.prog 392 = some false := agg_of Tryz.underlying392 rfl
theorem size392 : (Tryz.prog.info? 392).map (·.size) = some 1 := by kernel_rfl
theorem zero392 : (Tryz.prog.info? 392).bind (·.zero) = Option.some (Go.Value.pointer Option.none) := by kernel_rfl
theorem bytes392 : (Tryz.prog.info? 392).map (·.bytes) = some 8 := by kernel_rfl
theorem agg397 : aggB Tryz.prog 397 = some false := agg_of Tryz.underlying397 rfl
theorem size397 : (Tryz.prog.info? 397).map (·.size) = some 1 := by kernel_rfl
theorem zero397 : (Tryz.prog.info? 397).bind (·.zero) = Option.some (Go.Value.pointer Option.none) := by kernel_rfl
theorem bytes397 : (Tryz.prog.info? 397).map (·.bytes) = some 8 := by kernel_rfl
theorem agg401 : aggB Tryz.prog 401 = some true := agg_of Tryz.underlying401 rfl
theorem size401 : (Tryz.prog.info? 401).map (·.size) = some 24 := by kernel_rfl
theorem zero401 : (Tryz.prog.info? 401).bind (·.zero) = Option.some (Go.Value.agg #[Go.Value.int Go.IntKind.u8 0, Go.Value.int Go.IntKind.u8 0, Go.Value.int Go.IntKind.u8 0, Go.Value.int Go.IntKind.u8 0, Go.Value.int Go.IntKind.u8 0, Go.Value.int Go.IntKind.u8 0, Go.Value.int Go.IntKind.u8 0, Go.Value.int Go.IntKind.u8 0, Go.Value.int Go.IntKind.u8 0, Go.Value.int Go.IntKind.u8 0, Go.Value.int Go.IntKind.u8 0, Go.Value.int Go.IntKind.u8 0, Go.Value.int Go.IntKind.u8 0, Go.Value.int Go.IntKind.u8 0, Go.Value.int Go.IntKind.u8 0, Go.Value.int Go.IntKind.u8 0, Go.Value.int Go.IntKind.u8 0, Go.Value.int Go.IntKind.u8 0, Go.Value.int Go.IntKind.u8 0, Go.Value.int Go.IntKind.u8 0, Go.Value.int Go.IntKind.u8 0, Go.Value.int Go.IntKind.u8 0, Go.Value.int Go.IntKind.u8 0, Go.Value.int Go.IntKind.u8 0]) := by kernel_rfl
theorem bytes401 : (Tryz.prog.info? 401).map (·.bytes) = some 24 := by kernel_rfl
theorem agg406 : aggB Tryz.prog 406 = some true := agg_of Tryz.underlying406 rfl
theorem size406 : (Tryz.prog.info? 406).map (·.size) = some 3 := by kernel_rfl
theorem zero406 : (Tryz.prog.info? 406).bind (·.zero) = Option.some (Go.Value.agg #[Go.Value.nilIface, Go.Value.nilIface, Go.Value.nilIface]) := by kernel_rfl
theorem bytes406 : (Tryz.prog.info? 406).map (·.bytes) = some 48 := by kernel_rfl
theorem agg407 : aggB Tryz.prog 407 = some false := agg_of Tryz.underlying407 rfl
theorem size407 : (Tryz.prog.info? 407).map (·.size) = some 1 := by kernel_rfl
theorem zero407 : (Tryz.prog.info? 407).bind (·.zero) = Option.some (Go.Value.pointer Option.none) := by kernel_rfl
theorem bytes407 : (Tryz.prog.info? 407).map (·.bytes) = some 8 := by kernel_rfl
theorem agg410 : aggB Tryz.prog 410 = some true := agg_of Tryz.underlying410 rfl
theorem size410 : (Tryz.prog.info? 410).map (·.size) = some 256 := by kernel_rfl
theorem zero410 : (Tryz.prog.info? 410).bind (·.zero) = Option.some (Go.Value.agg (List.toArray (List.append (List.append [Go.Value.int Go.IntKind.u8 0, Go.Value.int Go.IntKind.u8 0, Go.Value.int Go.IntKind.u8 0, Go.Value.int Go.IntKind.u8 0, Go.Value.int Go.IntKind.u8 0, Go.Value.int Go.IntKind.u8 0, Go.Value.int Go.IntKind.u8 0, Go.Value.int Go.IntKind.u8 0, Go.Value.int Go.IntKind.u8 0, Go.Value.int Go.IntKind.u8 0, Go.Value.int Go.IntKind.u8 0, Go.Value.int Go.IntKind.u8 0, Go.Value.int Go.IntKind.u8 0, Go.Value.int Go.IntKind.u8 0, Go.Value.int Go.IntKind.u8 0, Go.Value.int Go.IntKind.u8 0, Go.Value.int Go.IntKind.u8 0, Go.Value.int Go.IntKind.u8 0, Go.Value.int Go.IntKind.u8 0, Go.Value.int Go.IntKind.u8 0, Go.Value.int Go.IntKind.u8 0, Go.Value.int Go.IntKind.u8 0, Go.Value.int Go.IntKind.u8 0, Go.Value.int Go.IntKind.u8 0, Go.Value.int Go.IntKind.u8 0, Go.Value.int Go.IntKind.u8 0, Go.Value.int Go.IntKind.u8 0, Go.Value.int Go.IntKind.u8 0, Go.Value.int Go.IntKind.u8 0, Go.Value.int Go.IntKind.u8 0, Go.Value.int Go.IntKind.u8 0, Go.Value.int Go.IntKind.u8 0, Go.Value.int Go.IntKind.u8 0, Go.Value.int Go.IntKind.u8 0, Go.Value.int Go.IntKind.u8 0, Go.Value.int Go.IntKind.u8 0, Go.Value.int Go.IntKind.u8 0, Go.Value.int Go.IntKind.u8 0, Go.Value.int Go.IntKind.u8 0, Go.Value.int Go.IntKind.u8 0, Go.Value.int Go.IntKind.u8 0, Go.Value.int Go.IntKind.u8 0, Go.Value.int Go.IntKind.u8 0, Go.Value.int Go.IntKind.u8 0, Go.Value.int Go.IntKind.u8 0, Go.Value.int Go.IntKind.u8 0, Go.Value.int Go.IntKind.u8 0, Go.Value.int Go.IntKind.u8 0, Go.Value.int Go.IntKind.u8 0, Go.Value.int Go.IntKind.u8 0, Go.Value.int Go.IntKind.u8 0, Go.Value.int Go.IntKind.u8 0, Go.Value.int Go.IntKind.u8 0, Go.Value.int Go.IntKind.u8 0, Go.Value.int Go.IntKind.u8 0, Go.Value.int Go.IntKind.u8 0, Go.Value.int Go.IntKind.u8 0, Go.Value.int Go.IntKind.u8 0, Go.Value.int Go.IntKind.u8 0, Go.Value.int Go.IntKind.u8 0, Go.Value.int Go.IntKind.u8 0, Go.Value.int Go.IntKind.u8 0, Go.Value.int Go.IntKind.u8 0, Go.Value.int Go.IntKind.u8 0] [Go.Value.int Go.IntKind.u8 0, Go.Value.int Go.IntKind.u8 0, Go.Value.int Go.IntKind.u8 0, Go.Value.int Go.IntKind.u8 0, Go.Value.int Go.IntKind.u8 0, Go.Value.int Go.IntKind.u8 0, Go.Value.int Go.IntKind.u8 0, Go.Value.int Go.IntKind.u8 0, Go.Value.int Go.IntKind.u8 0, Go.Value.int Go.IntKind.u8 0, Go.Value.int Go.IntKind.u8 0, Go.Value.int Go.IntKind.u8 0, Go.Value.int Go.IntKind.u8 0, Go.Value.int Go.IntKind.u8 0, Go.Value.int Go.IntKind.u8 0, Go.Value.int Go.IntKind.u8 0, Go.Value.int Go.IntKind.u8 0, Go.Value.int Go.IntKind.u8 0, Go.Value.int Go.IntKind.u8 0, Go.Value.int Go.IntKind.u8 0, Go.Value.int Go.IntKind.u8 0, Go.Value.int Go.IntKind.u8 0, Go.Value.int Go.IntKind.u8 0, Go.Value.int Go.IntKind.u8 0, Go.Value.int Go.IntKind.u8 0, Go.Value.int Go.IntKind.u8 0, Go.Value.int Go.IntKind.u8 0, Go.Value.int Go.IntKind.u8 0, Go.Value.int Go.IntKind.u8 0, Go.Value.int Go.IntKind.u8 0, Go.Value.int Go.IntKind.u8 0, Go.Value.int Go.IntKind.u8 0, Go.Value.int Go.IntKind.u8 0, Go.Value.int Go.IntKind.u8 0, Go.Value.int Go.IntKind.u8 0, Go.Value.int Go.IntKind.u8 0, Go.Value.int Go.IntKind.u8 0, Go.Value.int Go.IntKind.u8 0, Go.Value.int Go.IntKind.u8 0, Go.Value.int Go.IntKind.u8 0, Go.Value.int Go.IntKind.u8 0, Go.Value.int Go.IntKind.u8 0, Go.Value.int Go.IntKind.u8 0, Go.Value.int Go.IntKind.u8 0, Go.Value.int Go.IntKind.u8 0, Go.Value.int Go.IntKind.u8 0, Go.Value.int Go.IntKind.u8 0, Go.Value.int Go.IntKind.u8 0, Go.Value.int Go.IntKind.u8 0, Go.Value.int Go.IntKind.u8 0, Go.Value.int Go.IntKind.u8 0, Go.Value.int Go.IntKind.u8 0, Go.Value.int Go.IntKind.u8 0, Go.Value.int Go.IntKind.u8 0, Go.Value.int Go.IntKind.u8 0, Go.Value.int Go.IntKind.u8 0, Go.Value.int Go.IntKind.u8 0, Go.Value.int Go.IntKind.u8 0, Go.Value.int Go.IntKind.u8 0, Go.Value.int Go.IntKind.u8 0, Go.Value.int Go.IntKind.u8 0, Go.Value.int Go.IntKind.u8 0, Go.Value.int Go.IntKind.u8 0, Go.Value.int Go.IntKind.u8 0]) (List.append [Go.Value.int Go.IntKind.u8 0, Go.Value.int Go.IntKind.u8 0, Go.Value.int Go.IntKind.u8 0, Go.Value.int Go.IntKind.u8 0, Go.Value.int Go.IntKind.u8 0, Go.Value.int Go.IntKind.u8 0, Go.Value.int Go.IntKind.u8 0, Go.Value.int Go.IntKind.u8 0, Go.Value.int Go.IntKind.u8 0, Go.Value.int Go.IntKind.u8 0, Go.Value.int Go.IntKind.u8 0, Go.Value.int Go.IntKind.u8 0, Go.Value.int Go.IntKind.u8 0, Go.Value.int Go.IntKind.u8 0, Go.Value.int Go.IntKind.u8 0, Go.Value.int Go.IntKind.u8 0, Go.Value.int Go.IntKind.u8 0, Go.Value.int Go.IntKind.u8 0, Go.Value.int Go.IntKind.u8 0, Go.Value.int Go.IntKind.u8 0, Go.Value.int Go.IntKind.u8 0, Go.Value.int Go.IntKind.u8 0, Go.Value.int Go.IntKind.u8 0, Go.Value.int Go.IntKind.u8 0, Go.Value.int Go.IntKind.u8 0, Go.Value.int Go.IntKind.u8 0, Go.Value.int Go.IntKind.u8 0, Go.Value.int Go.IntKind.u8 0, Go.Value.int Go.IntKind.u8 0, Go.Value.int Go.IntKind.u8 0, Go.Value.int Go.IntKind.u8 0, Go.Value.int Go.IntKind.u8 0, Go.Value.int Go.IntKind.u8 0, Go.Value.int Go.IntKind.u8 0, Go.Value.int Go.IntKind.u8 0, Go.Value.int Go.IntKind.u8 0, Go.Value.int Go.IntKind.u8 0, Go.Value.int Go.IntKind.u8 0, Go.Value.int Go.IntKind.u8 0, Go.Value.int Go.IntKind.u8 0, Go.Value.int Go.IntKind.u8 0, Go.Value.int Go.IntKind.u8 0, Go.Value.int Go.IntKind.u8 0, Go.Value.int Go.IntKind.u8 0, Go.Value.int Go.IntKind.u8 0, Go.Value.int Go.IntKind.u8 0, Go.Value.int Go.IntKind.u8 0, Go.Value.int Go.IntKind.u8 0, Go.Value.int Go.IntKind.u8 0, Go.Value.int Go.IntKind.u8 0, Go.Value.int Go.IntKind.u8 0, Go.Value.int Go.IntKind.u8 0, Go.Value.int Go.IntKind.u8 0, Go.Value.int Go.IntKind.u8 0, Go.Value.int Go.IntKind.u8 0, Go.Value.int Go.IntKind.u8 0, Go.Value.int Go.IntKind.u8 0, Go.Value.int Go.IntKind.u8 0, Go.Value.int Go.IntKind.u8 0, Go.Value.int Go.IntKind.u8 0, Go.Value.int Go.IntKind.u8 0, Go.Value.int Go.IntKind.u8 0, Go.Value.int Go.IntKind.u8 0, Go.Value.int Go.IntKind.u8 0] [Go.Value.int Go.IntKind.u8 0, Go.Value.int Go.IntKind.u8 0, Go.Value.int Go.IntKind.u8 0, Go.Value.int Go.IntKind.u8 0, Go.Value.int Go.IntKind.u8 0, Go.Value.int Go.IntKind.u8 0, Go.Value.int Go.IntKind.u8 0, Go.Value.int Go.IntKind.u8 0, Go.Value.int Go.IntKind.u8 0, Go.Value.int Go.IntKind.u8 0, Go.Value.int Go.IntKind.u8 0, Go.Value.int Go.IntKind.u8 0, Go.Value.int Go.IntKind.u8 0, Go.Value.int Go.IntKind.u8 0, Go.Value.int Go.IntKind.u8 0, Go.Value.int Go.IntKind.u8 0, Go.Value.int Go.IntKind.u8 0, Go.Value.int Go.IntKind.u8 0, Go.Value.int Go.IntKind.u8 0, Go.Value.int Go.IntKind.u8 0, Go.Value.int Go.IntKind.u8 0, Go.Value.int Go.IntKind.u8 0, Go.Value.int Go.IntKind.u8 0, Go.Value.int Go.IntKind.u8 0, Go.Value.int Go.IntKind.u8 0, Go.Value.int Go.IntKind.u8 0, Go.Value.int Go.IntKind.u8 0, Go.Value.int Go.IntKind.u8 0, Go.Value.int Go.IntKind.u8 0, Go.Value.int Go.IntKind.u8 0, Go.Value.int Go.IntKind.u8 0, Go.Value.int Go.IntKind.u8 0, Go.Value.int Go.IntKind.u8 0, Go.Value.int Go.IntKind.u8 0, Go.Value.int Go.IntKind.u8 0, Go.Value.int Go.IntKind.u8 0, Go.Value.int Go.IntKind.u8 0, Go.Value.int Go.IntKind.u8 0, Go.Value.int Go.IntKind.u8 0, Go.Value.int Go.IntKind.u8 0, Go.Value.int Go.IntKind.u8 0, Go.Value.int Go.IntKind.u8 0, Go.Value.int Go.IntKind.u8 0, Go.Value.int Go.IntKind.u8 0, Go.Value.int Go.IntKind.u8 0, Go.Value.int Go.IntKind.u8 0, Go.Value.int Go.IntKind.u8 0, Go.Value.int Go.IntKind.u8 0, Go.Value.int Go.IntKind.u8 0, Go.Value.int Go.IntKind.u8 0, Go.Value.int Go.IntKind.u8 0, Go.Value.int Go.IntKind.u8 0, Go.Value.int Go.IntKind.u8 0, Go.Value.int Go.IntKind.u8 0, Go.Value.int Go.IntKind.u8 0, Go.Value.int Go.IntKind.u8 0, Go.Value.int Go.IntKind.u8 0, Go.Value.int Go.IntKind.u8 0, Go.Value.int Go.IntKind.u8 0, Go.Value.int Go.IntKind.u8 0, Go.Value.int Go.IntKind.u8 0, Go.Value.int Go.IntKind.u8 0, Go.Value.int Go.IntKind.u8 0, Go.Value.int Go.IntKind.u8 0])))) := by kernel_rfl
theorem bytes410 : (Tryz.prog.info? 410).map (·.bytes) = some 256 := by kernel_rfl
theorem agg412 : aggB Tryz.prog 412 = some true := agg_of Tryz.underlying412 rfl
theorem size412 : (Tryz.prog.info? 412).map (·.size) = some 2 := by kernel_rfl
theorem zero412 : (Tryz.prog.info? 412).bind (·.zero) = Option.some (Go.Value.agg #[Go.Value.int Go.IntKind.u8 0, Go.Value.int Go.IntKind.u8 0]) := by kernel_rfl
theorem bytes412 : (Tryz.prog.info? 412).map (·.bytes) = some 2 := by kernel_rfl
theorem agg413 : aggB Tryz.prog 413 = some true := agg_of Tryz.underlying413 rfl
theorem size413 : (Tryz.prog.info? 413).map (·.size) = some 32 := by kernel_rfl
theorem zero413 : (Tryz.prog.info? 413).bind (·.zero) = Option.some (Go.Value.agg #[Go.Value.int Go.IntKind.u8 0, Go.Value.int Go.IntKind.u8 0, Go.Value.int Go.IntKind.u8 0, Go.Value.int Go.IntKind.u8 0, Go.Value.int Go.IntKind.u8 0, Go.Value.int Go.IntKind.u8 0, Go.Value.int Go.IntKind.u8 0, Go.Value.int Go.IntKind.u8 0, Go.Value.int Go.IntKind.u8 0, Go.Value.int Go.IntKind.u8 0, Go.Value.int Go.IntKind.u8 0, Go.Value.int Go.IntKind.u8 0, Go.Value.int Go.IntKind.u8 0, Go.Value.int Go.IntKind.u8 0, Go.Value.int Go.IntKind.u8 0, Go.Value.int Go.IntKind.u8 0, Go.Value.int Go.IntKind.u8 0, Go.Value.int Go.IntKind.u8 0, Go.Value.int Go.IntKind.u8 0, Go.Value.int Go.IntKind.u8 0, Go.Value.int Go.IntKind.u8 0, Go.Value.int Go.IntKind.u8 0, Go.Value.int Go.IntKind.u8 0, Go.Value.int Go.IntKind.u8 0, Go.Value.int Go.IntKind.u8 0, Go.Value.int Go.IntKind.u8 0, Go.Value.int Go.IntKind.u8 0, Go.Value.int Go.IntKind.u8 0, Go.Value.int Go.IntKind.u8 0, Go.Value.int Go.IntKind.u8 0, Go.Value.int Go.IntKind.u8 0, Go.Value.int Go.IntKind.u8 0]) := by kernel_rfl
theorem bytes413 : (Tryz.prog.info? 413).map (·.bytes) = some 32 := by kernel_rfl
theorem agg417 : aggB Tryz.prog 417 = some true := agg_of Tryz.underlying417 rfl
theorem size417 : (Tryz.prog.info? 417).map (·.size) = some 20 := by kernel_rfl
theorem zero417 : (Tryz.prog.info? 417).bind (·.zero) = Option.some (Go.Value.agg #[Go.Value.int Go.IntKind.u64 0, Go.Value.int Go.IntKind.u64 0, Go.Value.int Go.IntKind.u64 0, Go.Value.int Go.IntKind.u64 0, Go.Value.int Go.IntKind.u64 0, Go.Value.int Go.IntKind.u64 0, Go.Value.int Go.IntKind.u64 0, Go.Value.int Go.IntKind.u64 0, Go.Value.int Go.IntKind.u64 0, Go.Value.int Go.IntKind.u64 0, Go.Value.int Go.IntKind.u64 0, Go.Value.int Go.IntKind.u64 0, Go.Value.int Go.IntKind.u64 0, Go.Value.int Go.IntKind.u64 0, Go.Value.int Go.IntKind.u64 0, Go.Value.int Go.IntKind.u64 0, Go.Value.int Go.IntKind.u64 0, Go.Value.int Go.IntKind.u64 0, Go.Value.int Go.IntKind.u64 0, Go.Value.int Go.IntKind.u64 0]) := by kernel_rfl
theorem bytes417 : (Tryz.prog.info? 417).map (·.bytes) = some 160 := by kernel_rfl
theorem agg418 : aggB Tryz.prog 418 = some true := agg_of Tryz.underlying418 rfl
theorem size418 : (Tryz.prog.info? 418).map (·.size) = some 65 := by kernel_rfl
theorem zero418 : (Tryz.prog.info? 418).bind (·.zero) = Option.some (Go.Value.agg (List.toArray (List.append [Go.Value.int Go.IntKind.u8 0, Go.Value.int Go.IntKind.u8 0, Go.Value.int Go.IntKind.u8 0, Go.Value.int Go.IntKind.u8 0, Go.Value.int Go.IntKind.u8 0, Go.Value.int Go.IntKind.u8 0, Go.Value.int Go.IntKind.u8 0, Go.Value.int Go.IntKind.u8 0, Go.Value.int Go.IntKind.u8 0, Go.Value.int Go.IntKind.u8 0, Go.Value.int Go.IntKind.u8 0, Go.Value.int Go.IntKind.u8 0, Go.Value.int Go.IntKind.u8 0, Go.Value.int Go.IntKind.u8 0, Go.Value.int Go.IntKind.u8 0, Go.Value.int Go.IntKind.u8 0, Go.Value.int Go.IntKind.u8 0, Go.Value.int Go.IntKind.u8 0, Go.Value.int Go.IntKind.u8 0, Go.Value.int Go.IntKind.u8 0, Go.Value.int Go.IntKind.u8 0, Go.Value.int Go.IntKind.u8 0, Go.Value.int Go.IntKind.u8 0, Go.Value.int Go.IntKind.u8 0, Go.Value.int Go.IntKind.u8 0, Go.Value.int Go.IntKind.u8 0, Go.Value.int Go.IntKind.u8 0, Go.Value.int Go.IntKind.u8 0, Go.Value.int Go.IntKind.u8 0, Go.Value.int Go.IntKind.u8 0, Go.Value.int Go.IntKind.u8 0, Go.Value.int Go.IntKind.u8 0] [Go.Value.int Go.IntKind.u8 0, Go.Value.int Go.IntKind.u8 0, Go.Value.int Go.IntKind.u8 0, Go.Value.int Go.IntKind.u8 0, Go.Value.int Go.IntKind.u8 0, Go.Value.int Go.IntKind.u8 0, Go.Value.int Go.IntKind.u8 0, Go.Value.int Go.IntKind.u8 0, Go.Value.int Go.IntKind.u8 0, Go.Value.int Go.IntKind.u8 0, Go.Value.int Go.IntKind.u8 0, Go.Value.int Go.IntKind.u8 0, Go.Value.int Go.IntKind.u8 0, Go.Value.int Go.IntKind.u8 0, Go.Value.int Go.IntKind.u8 0, Go.Value.int Go.IntKind.u8 0, Go.Value.int Go.IntKind.u8 0, Go.Value.int Go.IntKind.u8 0, Go.Value.int Go.IntKind.u8 0, Go.Value.int Go.IntKind.u8 0, Go.Value.int Go.IntKind.u8 0, Go.Value.int Go.IntKind.u8 0, Go.Value.int Go.IntKind.u8 0, Go.Value.int Go.IntKind.u8 0, Go.Value.int Go.IntKind.u8 0, Go.Value.int Go.IntKind.u8 0, Go.Value.int Go.IntKind.u8 0, Go.Value.int Go.IntKind.u8 0, Go.Value.int Go.IntKind.u8 0, Go.Value.int Go.IntKind.u8 0, Go.Value.int Go.IntKind.u8 0, Go.Value.int Go.IntKind.u8 0, Go.Value.int Go.IntKind.u8 0]))) := by kernel_rfl
theorem bytes418 : (Tryz.prog.info? 418).map (·.bytes) = some 65 := by kernel_rfl
theorem agg420 : aggB Tryz.prog 420 = some false := agg_of Tryz.underlying420 rfl
theorem size420 : (Tryz.prog.info? 420).map (·.size) = some 1 := by kernel_rfl
theorem zero420 : (Tryz.prog.info? 420).bind (·.zero) = Option.some (Go.Value.pointer Option.none) := by kernel_rfl
theorem bytes420 : (Tryz.prog.info? 420).map (·.bytes) = some 8 := by kernel_rfl
theorem agg422 : aggB Tryz.prog 422 = some false := agg_of Tryz.underlying422 rfl
theorem size422 : (Tryz.prog.info? 422).map (·.size) = some 1 := by kernel_rfl
theorem zero422 : (Tryz.prog.info? 422).bind (·.zero) = Option.some (Go.Value.pointer Option.none) := by kernel_rfl
theorem bytes422 : (Tryz.prog.info? 422).map (·.bytes) = some 8 := by kernel_rfl
theorem agg427 : aggB Tryz.prog 427 = some true := agg_of Tryz.underlying427 rfl
theorem size427 : (Tryz.prog.info? 427).map (·.size) = some 32 := by kernel_rfl
theorem zero427 : (Tryz.prog.info? 427).bind (·.zero) = Option.some (Go.Value.agg #[Go.Value.int Go.IntKind.u8 0, Go.Value.int Go.IntKind.u8 0, Go.Value.int Go.IntKind.u8 0, Go.Value.int Go.IntKind.u8 0, Go.Value.int Go.IntKind.u8 0, Go.Value.int Go.IntKind.u8 0, Go.Value.int Go.IntKind.u8 0, Go.Value.int Go.IntKind.u8 0, Go.Value.int Go.IntKind.u8 0, Go.Value.int Go.IntKind.u8 0, Go.Value.int Go.IntKind.u8 0, Go.Value.int Go.IntKind.u8 0, Go.Value.int Go.IntKind.u8 0, Go.Value.int Go.IntKind.u8 0, Go.Value.int Go.IntKind.u8 0, Go.Value.int Go.IntKind.u8 0, Go.Value.int Go.IntKind.u8 0, Go.Value.int Go.IntKind.u8 0, Go.Value.int Go.IntKind.u8 0, Go.Value.int Go.IntKind.u8 0, Go.Value.int Go.IntKind.u8 0, Go.Value.int Go.IntKind.u8 0, Go.Value.int Go.IntKind.u8 0, Go.Value.int Go.IntKind.u8 0, Go.Value.int Go.IntKind.u8 0, Go.Value.int Go.IntKind.u8 0, Go.Value.int Go.IntKind.u8 0, Go.Value.int Go.IntKind.u8 0, Go.Value.int Go.IntKind.u8 0, Go.Value.int Go.IntKind.u8 0, Go.Value.int Go.IntKind.u8 0, Go.Value.int Go.IntKind.u8 0]) := by kernel_rfl
theorem bytes427 : (Tryz.prog.info? 427).map (·.bytes) = some 32 := by kernel_rfl
theorem agg428 : aggB Tryz.prog 428 = some true := agg_of Tryz.underlying428 rfl
theorem size428 : (Tryz.prog.info? 428).map (·.size) = some 64 := by kernel_rfl
theorem zero428 : (Tryz.prog.info? 428).bind (·.zero) = Option.some (Go.Value.agg #[Go.Value.int Go.IntKind.u8 0, Go.Value.int Go.IntKind.u8 0, Go.Value.int Go.IntKind.u8 0, Go.Value.int Go.IntKind.u8 0, Go.Value.int Go.IntKind.u8 0, Go.Value.int Go.IntKind.u8 0, Go.Value.int Go.IntKind.u8 0, Go.Value.int Go.IntKind.u8 0, Go.Value.int Go.IntKind.u8 0, Go.Value.int Go.IntKind.u8 0, Go.Value.int Go.IntKind.u8 0, Go.Value.int Go.IntKind.u8 0, Go.Value.int Go.IntKind.u8 0, Go.Value.int Go.IntKind.u8 0, Go.Value.int Go.IntKind.u8 0, Go.Value.int Go.IntKind.u8 0, Go.Value.int Go.IntKind.u8 0, Go.Value.int Go.IntKind.u8 0, Go.Value.int Go.IntKind.u8 0, Go.Value.int Go.IntKind.u8 0, Go.Value.int Go.IntKind.u8 0, Go.Value.int Go.IntKind.u8 0, Go.Value.int Go.IntKind.u8 0, Go.Value.int Go.IntKind.u8 0, Go.Value.int Go.IntKind.u8 0, Go.Value.int Go.IntKind.u8 0, Go.Value.int Go.IntKind.u8 0, Go.Value.int Go.IntKind.u8 0, Go.Value.int Go.IntKind.u8 0, Go.Value.int Go.IntKind.u8 0, Go.Value.int Go.IntKind.u8 0, Go.Value.int Go.IntKind.u8 0, Go.Value.int Go.IntKind.u8 0, Go.Value.int Go.IntKind.u8 0, Go.Value.int Go.IntKind.u8 0, Go.Value.int Go.IntKind.u8 0, Go.Value.int Go.IntKind.u8 0, Go.Value.int Go.IntKind.u8 0, Go.Value.int Go.IntKind.u8 0, Go.Value.int Go.IntKind.u8 0, Go.Value.int Go.IntKind.u8 0, Go.Value.int Go.IntKind.u8 0, Go.Value.int Go.IntKind.u8 0, Go.Value.int Go.IntKind.u8 0, Go.Value.int Go.IntKind.u8 0, Go.Value.int Go.IntKind.u8 0, Go.Value.int Go.IntKind.u8 0, Go.Value.int Go.IntKind.u8 0, Go.Value.int Go.IntKind.u8 0, Go.Value.int Go.IntKind.u8 0, Go.Value.int Go.IntKind.u8 0, Go.Value.int Go.IntKind.u8 0, Go.Value.int Go.IntKind.u8 0, Go.Value.int Go.IntKind.u8 0, Go.Value.int Go.IntKind.u8 0, Go.Value.int Go.IntKind.u8 0, Go.Value.int Go.IntKind.u8 0, Go.Value.int Go.IntKind.u8 0, Go.Value.int Go.IntKind.u8 0, Go.Value.int Go.IntKind.u8 0, Go.Value.int Go.IntKind.u8 0, Go.Value.int Go.IntKind.u8 0, Go.Value.int Go.IntKind.u8 0, Go.Value.int Go.IntKind.u8 0]) := by kernel_rfl
theorem bytes428 : (Tryz.prog.info? 428).map (·.bytes) = some 64 := by kernel_rfl
theorem agg430 : aggB Tryz.prog 430 = some true := agg_of Tryz.underlying430 rfl
theorem size430 : (Tryz.prog.info? 430).map (·.size) = some 4 := by kernel_rfl
theorem zero430 : (Tryz.prog.info? 430).bind (·.zero) = Option.some (Go.Value.agg #[Go.Value.pointer Option.none, Go.Value.pointer Option.none, Go.Value.pointer Option.none, Go.Value.string { data := #[] }]) := by kernel_rfl
theorem bytes430 : (Tryz.prog.info? 430).map (·.bytes) = some 40 := by kernel_rfl
theorem agg431 : aggB Tryz.prog 431 = some true := agg_of Tryz.underlying431 rfl
theorem size431 : (Tryz.prog.info? 431).map (·.size) = some 0 := by kernel_rfl
theorem zero431 : (Tryz.prog.info? 431).bind (·.zero) = Option.some (Go.Value.agg #[]) := by kernel_rfl
theorem bytes431 : (Tryz.prog.info? 431).map (·.bytes) = some 0 := by kernel_rfl
theorem agg433 : aggB Tryz.prog 433 = some true := agg_of Tryz.underlying433 rfl
theorem size433 : (Tryz.prog.info? 433).map (·.size) = some 0 := by kernel_rfl
theorem zero433 : (Tryz.prog.info? 433).bind (·.zero) = Option.some (Go.Value.agg #[]) := by kernel_rfl
theorem bytes433 : (Tryz.prog.info? 433).map (·.bytes) = some 0 := by kernel_rfl
theorem agg435 : aggB Tryz.prog 435 = some false := agg_of Tryz.underlying435 rfl
theorem size435 : (Tryz.prog.info? 435).map (·.size) = some 1 := by kernel_rfl
theorem zero435 : (Tryz.prog.info? 435).bind (·.zero) = Option.some (Go.Value.int Go.IntKind.u8 0) := by kernel_rfl
theorem bytes435 : (Tryz.prog.info? 435).map (·.bytes) = some 1 := by kernel_rfl
theorem agg436 : aggB Tryz.prog 436 = some false := agg_of Tryz.underlying436 rfl
theorem size436 : (Tryz.prog.info? 436).map (·.size) = some 1 := by kernel_rfl
theorem zero436 : (Tryz.prog.info? 436).bind (·.zero) = Option.some Go.Value.nilFunc := by kernel_rfl
theorem bytes436 : (Tryz.prog.info? 436).map (·.bytes) = some 8 := by kernel_rfl
theorem agg437 : aggB Tryz.prog 437 = some false := agg_of Tryz.underlying437 rfl
theorem size437 : (Tryz.prog.info? 437).map (·.size) = some 1 := by kernel_rfl
theorem zero437 : (Tryz.prog.info? 437).bind (·.zero) = Option.some (Go.Value.int Go.IntKind.i32 0) := by kernel_rfl
theorem bytes437 : (Tryz.prog.info? 437).map (·.bytes) = some 4 := by kernel_rfl
theorem agg438 : aggB Tryz.prog 438 = some false := agg_of Tryz.underlying438 rfl
theorem size438 : (Tryz.prog.info? 438).map (·.size) = some 1 := by kernel_rfl
theorem zero438 : (Tryz.prog.info? 438).bind (·.zero) = Option.some (Go.Value.int Go.IntKind.i32 0) := by kernel_rfl
theorem bytes438 : (Tryz.prog.info? 438).map (·.bytes) = some 4 := by kernel_rfl
theorem agg440 : aggB Tryz.prog 440 = some true := agg_of Tryz.underlying440 rfl
theorem size440 : (Tryz.prog.info? 440).map (·.size) = some 11 := by kernel_rfl
theorem zero440 : (Tryz.prog.info? 440).bind (·.zero) = Option.some (Go.Value.agg #[Go.Value.int Go.IntKind.u64 0, Go.Value.int Go.IntKind.u64 0, Go.Value.int Go.IntKind.u32 0, Go.Value.int Go.IntKind.u8 0, Go.Value.int Go.IntKind.u8 0, Go.Value.int Go.IntKind.u8 0, Go.Value.int Go.IntKind.u8 0, Go.Value.nilFunc, Go.Value.pointer Option.none, Go.Value.int Go.IntKind.i32 0, Go.Value.int Go.IntKind.i32 0]) := by kernel_rfl
theorem bytes440 : (Tryz.prog.info? 440).map (·.bytes) = some 48 := by kernel_rfl
theorem agg447 : aggB Tryz.prog 447 = some true := agg_of Tryz.underlying447 rfl
theorem size447 : (Tryz.prog.info? 447).map (·.size) = some 3 := by kernel_rfl
theorem zero447 : (Tryz.prog.info? 447).bind (·.zero) = Option.some (Go.Value.agg #[Go.Value.int Go.IntKind.i64 0, Go.Value.int Go.IntKind.i64 0, Go.Value.bool Bool.false]) := by kernel_rfl
theorem bytes447 : (Tryz.prog.info? 447).map (·.bytes) = some 24 := by kernel_rfl
theorem agg449 : aggB Tryz.prog 449 = some false := agg_of Tryz.underlying449 rfl
theorem size449 : (Tryz.prog.info? 449).map (·.size) = some 1 := by kernel_rfl
theorem zero449 : (Tryz.prog.info? 449).bind (·.zero) = Option.some (Go.Value.pointer Option.none) := by kernel_rfl
theorem bytes449 : (Tryz.prog.info? 449).map (·.bytes) = some 8 := by kernel_rfl
theorem agg454 : aggB Tryz.prog 454 = some true := agg_of Tryz.underlying454 rfl
theorem size454 : (Tryz.prog.info? 454).map (·.size) = some 2 := by kernel_rfl
theorem zero454 : (Tryz.prog.info? 454).bind (·.zero) = Option.some (Go.Value.agg #[Go.Value.string { data := #[] }, Go.Value.int Go.IntKind.u8 0]) := by kernel_rfl
theorem bytes454 : (Tryz.prog.info? 454).map (·.bytes) = some 24 := by kernel_rfl
theorem agg455 : aggB Tryz.prog 455 = some false := agg_of Tryz.underlying455 rfl
theorem size455 : (Tryz.prog.info? 455).map (·.size) = some 1 := by kernel_rfl
theorem zero455 : (Tryz.prog.info? 455).bind (·.zero) = Option.some (Go.Value.pointer Option.none) := by kernel_rfl
theorem bytes455 : (Tryz.prog.info? 455).map (·.bytes) = some 8 := by kernel_rfl
theorem agg457 : aggB Tryz.prog 457 = some false := agg_of Tryz.underlying457 rfl
theorem size457 : (Tryz.prog.info? 457).map (·.size) = some 1 := by kernel_rfl
theorem zero457 : (Tryz.prog.info? 457).bind (·.zero) = Option.some (Go.Value.int Go.IntKind.u16 0) := by kernel_rfl
theorem bytes457 : (Tryz.prog.info? 457).map (·.bytes) = some 2 := by kernel_rfl
theorem agg459 : aggB Tryz.prog 459 = some true := agg_of Tryz.underlying459 rfl
theorem size459 : (Tryz.prog.info? 459).map (·.size) = some 5 := by kernel_rfl
theorem zero459 : (Tryz.prog.info? 459).bind (·.zero) = Option.some (Go.Value.agg #[Go.Value.int Go.IntKind.i32 0, Go.Value.int Go.IntKind.u16 0, Go.Value.int Go.IntKind.u16 0, Go.Value.int Go.IntKind.u32 0, Go.Value.int Go.IntKind.u32 0]) := by kernel_rfl
theorem bytes459 : (Tryz.prog.info? 459).map (·.bytes) = some 16 := by kernel_rfl
theorem agg460 : aggB Tryz.prog 460 = some false := agg_of Tryz.underlying460 rfl
theorem size460 : (Tryz.prog.info? 460).map (·.size) = some 1 := by kernel_rfl
theorem zero460 : (Tryz.prog.info? 460).bind (·.zero) = Option.some (Go.Value.slice Option.none 0 0) := by kernel_rfl
theorem bytes460 : (Tryz.prog.info? 460).map (·.bytes) = some 24 := by kernel_rfl
theorem agg461 : aggB Tryz.prog 461 = some false := agg_of Tryz.underlying461 rfl
theorem size461 : (Tryz.prog.info? 461).map (·.size) = some 1 := by kernel_rfl
theorem zero461 : (Tryz.prog.info? 461).bind (·.zero) = Option.some (Go.Value.int Go.IntKind.i32 0) := by kernel_rfl
theorem bytes461 : (Tryz.prog.info? 461).map (·.bytes) = some 4 := by kernel_rfl
theorem agg463 : aggB Tryz.prog 463 = some true := agg_of Tryz.underlying463 rfl
theorem size463 : (Tryz.prog.info? 463).map (·.size) = some 4 := by kernel_rfl
theorem zero463 : (Tryz.prog.info? 463).bind (·.zero) = Option.some (Go.Value.agg #[Go.Value.int Go.IntKind.i32 0, Go.Value.int Go.IntKind.i32 0, Go.Value.int Go.IntKind.i32 0, Go.Value.int Go.IntKind.i32 0]) := by kernel_rfl
theorem bytes463 : (Tryz.prog.info? 463).map (·.bytes) = some 16 := by kernel_rfl
theorem agg464 : aggB Tryz.prog 464 = some false := agg_of Tryz.underlying464 rfl
theorem size464 : (Tryz.prog.info? 464).map (·.size) = some 1 := by kernel_rfl
theorem zero464 : (Tryz.prog.info? 464).bind (·.zero) = Option.some (Go.Value.pointer Option.none) := by kernel_rfl
theorem bytes464 : (Tryz.prog.info? 464).map (·.bytes) = some 8 := by kernel_rfl
end Go.Mz

